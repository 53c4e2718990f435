/-
  Two pairs of numbers: an array is the same as itself. No condition.
-/
import Derived.Test.YtblnlmhkaacciaaRefPairs
import Derived.ChangeKeysEq
import Derived.Laws.StructEq
namespace Go.Proofs.Ytblnlmhkaacciaa
open Go.ChangeShapes Go.WideShapes Go.ChangeAt Go.RowKit
set_option linter.unusedVariables false
set_option linter.unusedSimpArgs false

theorem eqI64 (x y : Int) (d : Nat) (w : World) : (Op.equalIn (d + 1) 3 (.int .i64 x) (.int .i64 y)).run Try.prog w = .ok (x == y) w := run_equalIn_int w d 3 .i64 .i64 x y Try.underlying3
theorem isAgg3 (w : World) : (isAgg 3).run Try.prog w = .ok false w := by
  unfold isAgg
  rw [Sem.run_bind, run_underlying Try.underlying3 w]
  rfl
theorem part3 (cs : Array Value) (i : Nat) (v : Value) (w : World) (h : cs[i]? = some v) : (part 3 cs i).run Try.prog w = .ok v w := by
  unfold part
  simp only [Sem.run_bind, isAgg3, Result.andThen_ok, h]
  rfl
theorem cellsOf3 : Try.prog.cellsOf 3 = 1 := by kernel_rfl
theorem eqItems2 (d : Nat) (a b a' b' : Int) (w : World) : (Op.eqItems (d + 1) 3 1 #[.int .i64 a, .int .i64 b] #[.int .i64 a', .int .i64 b'] [0, 1]).run Try.prog w = .ok (a == a' && b == b') w := by
  have p1 := part3 #[.int .i64 a, .int .i64 b] 0 (.int .i64 a) w rfl
  have p2 := part3 #[.int .i64 a', .int .i64 b'] 0 (.int .i64 a') w rfl
  have p3 := part3 #[.int .i64 a, .int .i64 b] 1 (.int .i64 b) w rfl
  have p4 := part3 #[.int .i64 a', .int .i64 b'] 1 (.int .i64 b') w rfl
  by_cases h : a = a'
  · subst h
    by_cases h2 : b = b'
    · subst h2
      simp [Op.eqItems, Sem.run_bind, p1, p3, Result.andThen_ok, eqI64]
    · simp [Op.eqItems, Sem.run_bind, p1, p2, p3, p4, Result.andThen_ok, eqI64, h2]
  · simp [Op.eqItems, Sem.run_bind, p1, p2, p3, p4, Result.andThen_ok, eqI64, h]
theorem eq48 (a b a' b' : Int) (w : World) : (Op.equalIn 10000 48 (.agg #[.int .i64 a, .int .i64 b]) (.agg #[.int .i64 a', .int .i64 b'])).run Try.prog w = .ok (a == a' && b == b') w := by
  obtain ⟨i, hi⟩ : ∃ i, Try.prog.info? 3 = some i := by
    have : (Try.prog.info? 3).map (·.size) = some 1 := by kernel_rfl
    cases h : Try.prog.info? 3 with
    | none => simp [h] at this
    | some j => exact ⟨j, rfl⟩
  rw [show (10000 : Nat) = 9999 + 1 from rfl, run_equalIn_array w 9999 _ _ Try.underlying48 hi, cellsOf3]
  exact eqItems2 9998 a b a' b' w
end Go.Proofs.Ytblnlmhkaacciaa
