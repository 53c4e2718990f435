/-
  The walk of SeqTells: it returns true and leaves the world as it was. No condition beyond that the numbers fit their kinds.
-/
import Derived.Test.YtbmhpheclkapnaaWalks
namespace Go.Proofs.Ytbmhpheclkapnaa
open Go.ChangeShapes Go.WideShapes Go.ChangeAt Go.RowKit
set_option linter.unusedVariables false

theorem tells_any (a b n : Int) (w : World) (ha : 0 ≤ a ∧ a ≤ 4294967295) (hb : 0 ≤ b ∧ b ≤ 4294967295) :
    Calls Try.prog 3 #[.int .u32 a, .int .u32 b, .int .i64 n] w fun e w' => e = .returned (.bool true) ∧ w = w' := by
  by_cases h : sdf a b < 0
  · have hl : (lsB a b == true) = true := by unfold lsB; simpa using h
    have H : (ltr a b == b) = true := by unfold ltr; rw [if_pos h]; simp
    have hd : decide (sdf a b < 0) = true := by simpa using h
    go_enter Try.func3, Try.ntmps3
    go_wp2_with (first | (go_at_call 5; refine (refDiff_any _ _ _ ha hb).mono ?_; rintro e w' ⟨rfl, rfl⟩) | (go_at_call 6; refine (seqDiff_any _ _ _ ha hb).mono ?_; rintro e w' ⟨rfl, rfl⟩) | (go_at_call 7; refine (less_any _ _ _ ha hb).mono ?_; rintro e w' ⟨rfl, rfl⟩) | (go_at_call 8; refine (later_any _ _ _ ha hb).mono ?_; rintro e w' ⟨rfl, rfl⟩) | (go_at_call 9; refine (within_any _ _ _ _ ha hb).mono ?_; rintro e w' ⟨rfl, rfl⟩) | (go_at_call 10; refine (refWithin_any _ _ _ _ ha hb).mono ?_; rintro e w' ⟨rfl, rfl⟩) | (go_at_call 11; refine (lives_any _).mono ?_; rintro e w' ⟨rfl, rfl⟩))
    go_ret
    exact ⟨rfl, rfl⟩
  · have hl : (lsB a b == false) = true := by unfold lsB; simpa using h
    have H : (ltr a b == a) = true := by unfold ltr; rw [if_neg h]; simp
    have hd : decide (sdf a b < 0) = false := by simpa using h
    go_enter Try.func3, Try.ntmps3
    go_wp2_with (first | (go_at_call 5; refine (refDiff_any _ _ _ ha hb).mono ?_; rintro e w' ⟨rfl, rfl⟩) | (go_at_call 6; refine (seqDiff_any _ _ _ ha hb).mono ?_; rintro e w' ⟨rfl, rfl⟩) | (go_at_call 7; refine (less_any _ _ _ ha hb).mono ?_; rintro e w' ⟨rfl, rfl⟩) | (go_at_call 8; refine (later_any _ _ _ ha hb).mono ?_; rintro e w' ⟨rfl, rfl⟩) | (go_at_call 9; refine (within_any _ _ _ _ ha hb).mono ?_; rintro e w' ⟨rfl, rfl⟩) | (go_at_call 10; refine (refWithin_any _ _ _ _ ha hb).mono ?_; rintro e w' ⟨rfl, rfl⟩) | (go_at_call 11; refine (lives_any _).mono ?_; rintro e w' ⟨rfl, rfl⟩))
    go_ret
    exact ⟨rfl, rfl⟩

theorem seqTells.walk (a b n : Int) (w : World) (wa : (Lit.int .u32 a).wf = true) (wb : (Lit.int .u32 b).wf = true) (_ : (Lit.int .i64 n).wf = true) :
    Calls Try.prog 3 #[.int .u32 a, .int .u32 b, .int .i64 n] w fun e w' => e = .returned (.bool true) ∧ Below w.heap.size w w' := by
  have ha : 0 ≤ a ∧ a ≤ 4294967295 := by simpa [Lit.wf, IntKind.min, IntKind.max, IntKind.signed, IntKind.bits] using wa
  have hb : 0 ≤ b ∧ b ≤ 4294967295 := by simpa [Lit.wf, IntKind.min, IntKind.max, IntKind.signed, IntKind.bits] using wb
  exact (tells_any a b n w ha hb).mono fun _ _ ⟨h, hw⟩ => ⟨h, hw ▸ Below.refl _ _⟩
end Go.Proofs.Ytbmhpheclkapnaa
