/-
  The walk of SeqMoves: it returns true and leaves the world as it was. No condition beyond that the numbers fit their kinds.
-/
import Derived.Test.YtbmhpheclkapnaaWalks
namespace Go.Proofs.Ytbmhpheclkapnaa
open Go.ChangeShapes Go.WideShapes Go.ChangeAt Go.RowKit
set_option linter.unusedVariables false

theorem sdf_moved (a b y : Int) : sdf ((a + y) % 4294967296) ((b + y) % 4294967296) = sdf a b := by unfold sdf; omega
theorem lsB_moved (a b y : Int) : lsB ((a + y) % 4294967296) ((b + y) % 4294967296) = lsB a b := by unfold lsB; rw [sdf_moved]
theorem wiB_moved (a b y n : Int) : wiB ((a + y) % 4294967296) ((b + y) % 4294967296) n = wiB a b n := by
  unfold wiB; rw [show ((a + y) % 4294967296 - (b + y) % 4294967296) % 4294967296 = (a - b) % 4294967296 by omega]

theorem moves_any (a b y : Int) (w : World) (ha : 0 ≤ a ∧ a ≤ 4294967295) (hb : 0 ≤ b ∧ b ≤ 4294967295) (hy : 0 ≤ y ∧ y ≤ 4294967295) :
    Calls Try.prog 4 #[.int .u32 a, .int .u32 b, .int .u32 y] w fun e w' => e = .returned (.bool true) ∧ w = w' := by
  have D : ∀ W : World, Calls Try.prog 6 #[.int .u32 ((a + y) % 4294967296), .int .u32 ((b + y) % 4294967296)] W fun e w' => e = .returned (.int .i64 (sdf a b)) ∧ W = w' := by
    intro W; have := seqDiff_any ((a + y) % 4294967296) ((b + y) % 4294967296) W (by omega) (by omega); rwa [sdf_moved] at this
  have L : ∀ W : World, Calls Try.prog 7 #[.int .u32 ((a + y) % 4294967296), .int .u32 ((b + y) % 4294967296)] W fun e w' => e = .returned (.bool (lsB a b)) ∧ W = w' := by
    intro W; have := less_any ((a + y) % 4294967296) ((b + y) % 4294967296) W (by omega) (by omega); rwa [lsB_moved] at this
  have I : ∀ W : World, Calls Try.prog 9 #[.int .u32 ((a + y) % 4294967296), .int .u32 ((b + y) % 4294967296), .int .i64 9] W fun e w' => e = .returned (.bool (wiB a b 9)) ∧ W = w' := by
    intro W; have := within_any ((a + y) % 4294967296) ((b + y) % 4294967296) 9 W (by omega) (by omega); rwa [wiB_moved] at this
  have HD := Lib.hid D
  have HL := Lib.hid L
  have HI := Lib.hid I
  clear D L I
  have d0 : (sdf a b != sdf a b) = false := by simp
  have l0 : (lsB a b != lsB a b) = false := by simp
  have i0 : (wiB a b 9 != wiB a b 9) = false := by simp
  by_cases e : a = b
  · subst e
    have l1 : lsB a a = false := by
      have : sdf a a = 0 := by unfold sdf; omega
      simp [lsB, this]
    go_enter Try.func4, Try.ntmps4
    go_wp2_with fail
    refine (HD.out _).mono ?_; rintro e w' ⟨rfl, rfl⟩
    go_wp2_with fail
    refine (seqDiff_any _ _ _ ha hb).mono ?_; rintro e w' ⟨rfl, rfl⟩
    go_wp2_with fail
    refine (HL.out _).mono ?_; rintro e w' ⟨rfl, rfl⟩
    go_wp2_with fail
    refine (less_any _ _ _ ha hb).mono ?_; rintro e w' ⟨rfl, rfl⟩
    go_wp2_with fail
    refine (HI.out _).mono ?_; rintro e w' ⟨rfl, rfl⟩
    go_wp2_with fail
    refine (within_any _ _ _ _ ha hb).mono ?_; rintro e w' ⟨rfl, rfl⟩
    go_wp2_with (first | (go_at_call 7; refine (less_any _ _ _ ha hb).mono ?_; rintro e w' ⟨rfl, rfl⟩) | (go_at_call 11; refine (lives_any _).mono ?_; rintro e w' ⟨rfl, rfl⟩))
    go_ret
    exact ⟨rfl, rfl⟩
  · have e1 : (a == b) = false := by simpa using e
    by_cases h : (a - b) % 4294967296 = 2147483648
    · have h1 : ((a - b) % 4294967296 == 2147483648) = true := by simpa using h
      have l1 : (lsB a b == (a != b)) = true := by
        have : sdf a b = -2147483648 := by unfold sdf; omega
        simp [lsB, this, e]
      clear h
      go_enter Try.func4, Try.ntmps4
      go_wp2_with fail
      refine (HD.out _).mono ?_; rintro e w' ⟨rfl, rfl⟩
      go_wp2_with fail
      refine (seqDiff_any _ _ _ ha hb).mono ?_; rintro e w' ⟨rfl, rfl⟩
      go_wp2_with fail
      refine (HL.out _).mono ?_; rintro e w' ⟨rfl, rfl⟩
      go_wp2_with fail
      refine (less_any _ _ _ ha hb).mono ?_; rintro e w' ⟨rfl, rfl⟩
      go_wp2_with fail
      refine (HI.out _).mono ?_; rintro e w' ⟨rfl, rfl⟩
      go_wp2_with fail
      refine (within_any _ _ _ _ ha hb).mono ?_; rintro e w' ⟨rfl, rfl⟩
      go_wp2_with (first | (go_at_call 7; refine (less_any _ _ _ ha hb).mono ?_; rintro e w' ⟨rfl, rfl⟩) | (go_at_call 11; refine (lives_any _).mono ?_; rintro e w' ⟨rfl, rfl⟩))
      go_ret
      exact ⟨rfl, rfl⟩
    · have h1 : ((a - b) % 4294967296 == 2147483648) = false := by simpa using h
      have l1 : (lsB a b = true ∧ lsB b a = false) ∨ (lsB a b = false ∧ lsB b a = true) := by
        have : sdf a b < 0 ↔ ¬ sdf b a < 0 := by unfold sdf; omega
        unfold lsB
        by_cases q : sdf b a < 0 <;> simp [q, this]
      clear h
      rcases l1 with ⟨l1, l2⟩ | ⟨l1, l2⟩
      all_goals
        go_enter Try.func4, Try.ntmps4
        go_wp2_with fail
        refine (HD.out _).mono ?_; rintro e w' ⟨rfl, rfl⟩
        go_wp2_with fail
        refine (seqDiff_any _ _ _ ha hb).mono ?_; rintro e w' ⟨rfl, rfl⟩
        go_wp2_with fail
        refine (HL.out _).mono ?_; rintro e w' ⟨rfl, rfl⟩
        go_wp2_with fail
        refine (less_any _ _ _ ha hb).mono ?_; rintro e w' ⟨rfl, rfl⟩
        go_wp2_with fail
        refine (HI.out _).mono ?_; rintro e w' ⟨rfl, rfl⟩
        go_wp2_with fail
        refine (within_any _ _ _ _ ha hb).mono ?_; rintro e w' ⟨rfl, rfl⟩
        go_wp2_with fail
        refine (less_any _ _ _ ha hb).mono ?_; rintro e w' ⟨rfl, rfl⟩
        go_wp2_with fail
        refine (less_any _ _ _ hb ha).mono ?_; rintro e w' ⟨rfl, rfl⟩
        go_wp2_with (first | (go_at_call 11; refine (lives_any _).mono ?_; rintro e w' ⟨rfl, rfl⟩))
        go_ret
        exact ⟨rfl, rfl⟩

theorem seqMoves.walk (a b n : Int) (w : World) (wa : (Lit.int .u32 a).wf = true) (wb : (Lit.int .u32 b).wf = true) (wn : (Lit.int .u32 n).wf = true) :
    Calls Try.prog 4 #[.int .u32 a, .int .u32 b, .int .u32 n] w fun e w' => e = .returned (.bool true) ∧ Below w.heap.size w w' := by
  have ha : 0 ≤ a ∧ a ≤ 4294967295 := by simpa [Lit.wf, IntKind.min, IntKind.max, IntKind.signed, IntKind.bits] using wa
  have hb : 0 ≤ b ∧ b ≤ 4294967295 := by simpa [Lit.wf, IntKind.min, IntKind.max, IntKind.signed, IntKind.bits] using wb
  have hn : 0 ≤ n ∧ n ≤ 4294967295 := by simpa [Lit.wf, IntKind.min, IntKind.max, IntKind.signed, IntKind.bits] using wn
  exact (moves_any a b n w ha hb hn).mono fun _ _ ⟨h, hw⟩ => ⟨h, hw ▸ Below.refl _ _⟩
end Go.Proofs.Ytbmhpheclkapnaa
