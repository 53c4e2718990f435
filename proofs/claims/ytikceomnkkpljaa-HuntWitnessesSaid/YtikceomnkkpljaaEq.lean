/-
  Two addresses: are they the same? No condition.
-/
import Derived.Test.YtikceomnkkpljaaRefSyn
import Derived.ChangeKeysEq
import Derived.Laws.StructEq
namespace Go.Proofs.Ytikceomnkkpljaa
open Go.ChangeShapes Go.WideShapes Go.ChangeAt Go.RowKit
set_option linter.unusedVariables false
set_option linter.unusedSimpArgs false

theorem eqU8 (x y : Int) (d : Nat) (w : World) : (Op.equalIn (d + 1) 5 (.int .u8 x) (.int .u8 y)).run Try.prog w = .ok (x == y) w := run_equalIn_int w d 5 .u8 .u8 x y Try.underlying5
theorem isAgg5 (w : World) : (isAgg 5).run Try.prog w = .ok false w := by
  unfold isAgg
  rw [Sem.run_bind, run_underlying Try.underlying5 w]
  rfl
theorem sizeOf5 (w : World) : (sizeOf 5).run Try.prog w = .ok 1 w := by
  have : (Try.prog.info? 5).map (·.size) = some 1 := by kernel_rfl
  cases h : Try.prog.info? 5 with
  | none => simp [h] at this
  | some j =>
    have hz : j.size = 1 := by simpa [h] using this
    simp [sizeOf, typeInfo, h, hz, go_sem]
theorem part5 (cs : Array Value) (i : Nat) (v : Value) (w : World) (h : cs[i]? = some v) : (part 5 cs i).run Try.prog w = .ok v w := by
  unfold part
  simp only [Sem.run_bind, isAgg5, Result.andThen_ok, h]
  rfl
theorem cellsOf5 : Try.prog.cellsOf 5 = 1 := by kernel_rfl
theorem eqItems_u8 (d : Nat) (xs ys : List Int) (w : World) : ∀ (k i : Nat), i + k = xs.length → i + k = ys.length →
    (Op.eqItems (d + 1) 5 1 (u8s xs).toArray (u8s ys).toArray (List.range' i k)).run Try.prog w = .ok (decide (xs.drop i = ys.drop i)) w
  | 0, i, hx, hy => by
    rw [List.drop_eq_nil_of_le (by omega), List.drop_eq_nil_of_le (by omega)]
    simp [Op.eqItems]
  | k + 1, i, hx, hy => by
    have ih := eqItems_u8 d xs ys w k (i + 1) (by omega) (by omega)
    have hxi : i < xs.length := by omega
    have hyi : i < ys.length := by omega
    have p1 := part5 (u8s xs).toArray (i * 1) (.int .u8 xs[i]) w (by simp [u8s, hxi])
    have p2 := part5 (u8s ys).toArray (i * 1) (.int .u8 ys[i]) w (by simp [u8s, hyi])
    rw [List.range'_succ]
    simp only [Op.eqItems, Sem.run_bind, p1, p2, Result.andThen_ok, eqU8]
    have hd : (xs.drop i = ys.drop i) ↔ (xs[i] = ys[i] ∧ xs.drop (i + 1) = ys.drop (i + 1)) := by
      rw [List.drop_eq_getElem_cons hxi, List.drop_eq_getElem_cons hyi]
      exact List.cons_eq_cons
    rw [show decide (xs.drop i = ys.drop i) = decide (xs[i] = ys[i] ∧ xs.drop (i + 1) = ys.drop (i + 1)) from decide_eq_decide.2 hd]
    by_cases he : xs[i] = ys[i]
    · simp [he, ih]
    · simp [he]
theorem eq34 (xs ys : List Int) (hx : xs.length = 16) (hy : ys.length = 16) (w : World) : (Op.equalIn 10000 34 (.agg (u8s xs).toArray) (.agg (u8s ys).toArray)).run Try.prog w = .ok (decide (xs = ys)) w := by
  obtain ⟨i, hi⟩ : ∃ i, Try.prog.info? 5 = some i := by
    have : (Try.prog.info? 5).map (·.size) = some 1 := by kernel_rfl
    cases h : Try.prog.info? 5 with
    | none => simp [h] at this
    | some j => exact ⟨j, rfl⟩
  rw [show (10000 : Nat) = 9999 + 1 from rfl, run_equalIn_array w 9999 _ _ Try.underlying34 hi, cellsOf5, List.range_eq_range']
  have := eqItems_u8 9998 xs ys w 16 0 (by omega) (by omega)
  simpa using this
end Go.Proofs.Ytikceomnkkpljaa
