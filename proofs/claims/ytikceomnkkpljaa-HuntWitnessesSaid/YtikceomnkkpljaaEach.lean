/-
  The walks of each and of its iterator: the backends of pairs, each once. No condition.
-/
import Derived.RangeFuncNested
import Derived.RangeFuncBound
import Derived.RangeFuncCalls
import Derived.RangeFuncLeaves
import Derived.RangeFuncBox
import Derived.Shelf.Abstract
import Derived.Shelf.RegionOpen
import Derived.WalkKit
import Derived.OwnWalkIn
import Derived.TacticsInMore
import Derived.LoopNIn
import Derived.LoopIn
import Derived.Maps.AppendAt
import Derived.ControlIn
import Derived.Test.YtikceomnkkpljaaOnce
namespace Go.Proofs.Ytikceomnkkpljaa
open Go.ChangeShapes Go.WideShapes Go.ChangeAt Go.RowKit Go.Shelf
set_option linter.unusedVariables false
set_option linter.unusedSimpArgs false

theorem each_any (A : Option Addr) (n c : Nat) (w : World) : Calls Try.prog 22 #[.slice A n c] w fun e w' => e = .returned (.func (.func 32) #[] #[.pointer (some ⟨w.heap.size, 0, none⟩)]) ∧ w' = w.alloc (.cells #[.slice A n c] 22) := by
  go_enter Try.func22, Try.ntmps22
  go_wp2
  go_ret
  exact ⟨rfl, rfl⟩

attribute [local go_sem] Oper.semAt_some
/-- A backend's number. -/
abbrev Node := { x : Int // isN x = true }
def vals (l : List Node) : List Int := l.map Subtype.val
theorem vals_snoc (l : List Node) (x : Node) : vals (l ++ [x]) = vals l ++ [x.1] := by simp [vals]
/-- What a round of ours keeps: maps and walks, and the block of the pairs. -/
structure KpG (g : Nat) (A B : World) : Prop where
  walks : KeepsWalks A B
  row : B.heap[g]? = A.heap[g]?
theorem KpG.trans {g : Nat} {A B C : World} (h : KpG g A B) (k : KpG g B C) : KpG g A C := ⟨h.walks.trans k.walks, k.row.trans h.row⟩
def PCells (w : World) (g o : Nat) (ps : List (Int × Int)) : Prop := ∀ (i : Nat) (h : i < ps.length), w.cell? ⟨g, o + i * 2, none⟩ = some (.int .i64 (ps[i]).1) ∧ w.cell? ⟨g, o + i * 2 + 1, none⟩ = some (.int .i64 (ps[i]).2)
theorem PCells.kept {w v : World} {g o : Nat} {ps : List (Int × Int)} (h : PCells w g o ps) (e : v.heap[g]? = w.heap[g]?) : PCells v g o ps := fun i hi =>
  ⟨(World.cell?_of_block (a := ⟨g, _, none⟩) e).trans (h i hi).1, (World.cell?_of_block (a := ⟨g, _, none⟩) e).trans (h i hi).2⟩
abbrev Mp (w : World) (b n : Nat) (D : DataW Nat) : Prop := w.ownsMap Try.prog 3 (plainElem (H := Nat) Try.prog 3) b n D
theorem Mp.walks {w v : World} {b n : Nat} {D : DataW Nat} (h : Mp w b n D) (k : KeepsWalks w v) : Mp v b n D := by
  obtain ⟨es, ck, hh, hr⟩ := h
  exact ⟨es, ck, k.same b _ hh rfl, hr⟩
theorem Mp.row {w : World} {b n : Nat} {D : DataW Nat} (h : Mp w b n D) : ∃ o : Obj, w.heap[b]? = some o ∧ o.isWalk = true := by
  obtain ⟨es, ck, hh, hr⟩ := h
  exact ⟨_, hh, rfl⟩
theorem idx42 (a b : Int) (j : Nat) (h : j < 2) (W : World) : (Instr.index 42 (.agg #[.int .i64 a, .int .i64 b]) (.int .i64 (j : Int))).run Try.prog W = .ok (.int .i64 (if j = 0 then a else b)) W := by
  obtain ⟨j0, hj, hj0⟩ : ∃ j0, Try.prog.info? 3 = some j0 ∧ j0.size = 1 := by
    have : (Try.prog.info? 3).map (·.size) = some 1 := by kernel_rfl
    cases h : Try.prog.info? 3 with
    | none => simp [h] at this
    | some j => exact ⟨j, rfl, by simpa [h] using this⟩
  rcases (show j = 0 ∨ j = 1 by omega) with rfl | rfl <;>
  simp [Instr.index, run_underlying Try.underlying42, asIntOf, go_sem, part, sizeOf, typeInfo, hj, hj0, isAgg, run_underlying Try.underlying3]
theorem zero3 (w : World) : (zeroValue 3).run Try.prog w = .ok (.int .i64 0) w := by
  have : (Try.prog.info? 3).map (·.zero) = some (some (.int .i64 0)) := by kernel_rfl
  cases h : Try.prog.info? 3 with
  | none => simp [h] at this
  | some j =>
    have hz : j.zero = some (.int .i64 0) := by simpa [h] using this
    simp [zeroValue, typeInfo, h, hz, go_sem]
end Go.Proofs.Ytikceomnkkpljaa
