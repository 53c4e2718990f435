/-
  The chapter's example (lives). No condition.
-/
import Derived.Test.YtfebfmhjdgjlmaaFind
namespace Go.Proofs.Ytfebfmhjdgjlmaa
open Go.ChangeShapes Go.WideShapes Go.ChangeAt Go.RowKit
set_option linter.unusedVariables false

def ex : List Int := [6, 0, 0, 0, 0, 0, 0, 0, 1, 2, 3]
theorem ex_row (w : World) : IsRow .u8 (w.alloc (.cells #[.int .u8 6, .int .u8 0, .int .u8 0, .int .u8 0, .int .u8 0, .int .u8 0, .int .u8 0, .int .u8 0, .int .u8 1, .int .u8 2, .int .u8 3] 5)) (some ⟨w.heap.size, 0, none⟩) 11 11 ex := by
  refine Or.inr ⟨_, rfl, Nat.le_refl _, by unfold maxLen; omega, rfl, fun i hi => ?_, by decide⟩
  have h : ∀ o, (w.alloc (.cells #[.int .u8 6, .int .u8 0, .int .u8 0, .int .u8 0, .int .u8 0, .int .u8 0, .int .u8 0, .int .u8 0, .int .u8 1, .int .u8 2, .int .u8 3] 5)).cell? ⟨w.heap.size, o, none⟩ = (#[.int .u8 6, .int .u8 0, .int .u8 0, .int .u8 0, .int .u8 0, .int .u8 0, .int .u8 0, .int .u8 0, .int .u8 1, .int .u8 2, .int .u8 3] : Array Value)[o]? := fun o => (Blk.new w 5 _).cell o
  have e : (⟨w.heap.size, 0, none⟩ : Addr).add i = ⟨w.heap.size, i, none⟩ := by unfold Addr.add; split <;> simp_all
  rw [e, h]
  match i, hi with
  | 0, _ | 1, _ | 2, _ | 3, _ | 4, _ | 5, _ | 6, _ | 7, _ | 8, _ | 9, _ | 10, _ => rfl
theorem ex_walk : wk (fun i => ex.getD i 0) 11 9 43 0 0 = ([(43, 0, 8), (6, 8, 3)], 0) := by decide
theorem ex_frag : wk (fun i => ([] : List Int).getD i 0) 0 9 44 0 0 = ([], 7) := by decide
theorem ex_find : fnd 6 [(43, 0, 8), (6, 8, 3)] = 1 := by decide

theorem lives_any (w : World) : Calls Try.prog 8 #[] w fun e w' => e = .returned (.bool true) ∧ Below w.heap.size w w' := by
  go_enter Try.func8, Try.ntmps8
  go_wp2_with fail
  refine (walk_any (some ⟨w.heap.size, 0, none⟩) 11 11 ex 43 0 _ (ex_row w) (by omega) (by omega)).mono ?_
  rw [ex_walk]
  rintro e w1 ⟨A, c, rfl, hO, hB⟩
  have HB : Hid (Below w.heap.size w w1) := ((Below.refl _ _).alloc (Nat.le_refl _) _).trans (hB.mono (by simp))
  have HR : Hid (HdRow w1 A 2 [(43, 0, 8), (6, 8, 3)]) := HdRow.of_own hO rfl
  clear hB hO
  go_wp2_with fail
  refine (walk_any none 0 0 [] 44 0 _ (Or.inl ⟨rfl, rfl, rfl, rfl⟩) (by omega) (by omega)).mono ?_
  rw [ex_frag]
  rintro e w2 ⟨A2, c2, rfl, hO, hB⟩
  have HB2 : Hid (Below w.heap.size w w2) := HB.out.trans (hB.mono HB.out.size)
  have HR2 : Hid (HdRow w2 A 2 [(43, 0, 8), (6, 8, 3)]) := HR.out.later hB
  clear hB hO
  obtain ⟨g, o, rfl, hg, hc⟩ := HR2.out.2 (by omega)
  obtain ⟨x1, x2, x3⟩ := hc 1 (by omega)
  clear hc
  simp only [List.getD_cons_succ, List.getD_cons_zero] at x1 x2 x3
  go_wp2_with (go_at_call 10; refine (find_any _ _ _ [(43, 0, 8), (6, 8, 3)] _ _ HR2.out (by omega)).mono ?_; rw [ex_find]; rintro e w3 ⟨rfl, hB3⟩; have HB3 := Lib.hid hB3; clear hB3)
  go_ret
  exact ⟨rfl, HB2.out.trans (HB3.out.mono HB2.out.size)⟩
end Go.Proofs.Ytfebfmhjdgjlmaa
