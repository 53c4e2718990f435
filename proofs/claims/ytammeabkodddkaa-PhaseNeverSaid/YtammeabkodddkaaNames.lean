/-
  Contracts of the functions of seat 25 that return a name or a state. No condition.
-/
import Derived.Test.YtammeabkodddkaaWalks
namespace Go.Proofs.Ytammeabkodddkaa
open Go.ChangeShapes Go.WideShapes Go.ChangeAt Go.RowKit
set_option linter.unusedVariables false

theorem name_any (x : Int) (w : World) : Calls Try.prog 9 #[.int .i64 x] w fun e w' => e = .returned (.string (nmo x)) ∧ w = w' := by
  have i0 : ∀ w, (Instr.index 30 (.agg #[.string ⟨#[112, 101, 110, 100, 105, 110, 103]⟩, .string ⟨#[108, 101, 97, 114, 110, 116]⟩, .string ⟨#[111, 112, 101, 110]⟩, .string ⟨#[99, 108, 111, 115, 105, 110, 103]⟩, .string ⟨#[103, 111, 110, 101]⟩]) (.int .i64 0)).run Try.prog w = .ok (.string ⟨#[112, 101, 110, 100, 105, 110, 103]⟩) w := fun _ => by kernel_rfl
  have i1 : ∀ w, (Instr.index 30 (.agg #[.string ⟨#[112, 101, 110, 100, 105, 110, 103]⟩, .string ⟨#[108, 101, 97, 114, 110, 116]⟩, .string ⟨#[111, 112, 101, 110]⟩, .string ⟨#[99, 108, 111, 115, 105, 110, 103]⟩, .string ⟨#[103, 111, 110, 101]⟩]) (.int .i64 1)).run Try.prog w = .ok (.string ⟨#[108, 101, 97, 114, 110, 116]⟩) w := fun _ => by kernel_rfl
  have i2 : ∀ w, (Instr.index 30 (.agg #[.string ⟨#[112, 101, 110, 100, 105, 110, 103]⟩, .string ⟨#[108, 101, 97, 114, 110, 116]⟩, .string ⟨#[111, 112, 101, 110]⟩, .string ⟨#[99, 108, 111, 115, 105, 110, 103]⟩, .string ⟨#[103, 111, 110, 101]⟩]) (.int .i64 2)).run Try.prog w = .ok (.string ⟨#[111, 112, 101, 110]⟩) w := fun _ => by kernel_rfl
  have i3 : ∀ w, (Instr.index 30 (.agg #[.string ⟨#[112, 101, 110, 100, 105, 110, 103]⟩, .string ⟨#[108, 101, 97, 114, 110, 116]⟩, .string ⟨#[111, 112, 101, 110]⟩, .string ⟨#[99, 108, 111, 115, 105, 110, 103]⟩, .string ⟨#[103, 111, 110, 101]⟩]) (.int .i64 3)).run Try.prog w = .ok (.string ⟨#[99, 108, 111, 115, 105, 110, 103]⟩) w := fun _ => by kernel_rfl
  have i4 : ∀ w, (Instr.index 30 (.agg #[.string ⟨#[112, 101, 110, 100, 105, 110, 103]⟩, .string ⟨#[108, 101, 97, 114, 110, 116]⟩, .string ⟨#[111, 112, 101, 110]⟩, .string ⟨#[99, 108, 111, 115, 105, 110, 103]⟩, .string ⟨#[103, 111, 110, 101]⟩]) (.int .i64 4)).run Try.prog w = .ok (.string ⟨#[103, 111, 110, 101]⟩) w := fun _ => by kernel_rfl
  rcases kn_cases x with h | h | h | h | h
  all_goals
    have H := Lib.hid h
    clear h
    go_enter Try.func9, Try.ntmps9
    go_wp2_with (go_at_call 12; refine (known_any _ _ _ H.out).mono ?_; rintro e w' ⟨rfl, rfl⟩)
    go_ret
    exact ⟨ret_str (by simp [nmo, H.out]), rfl⟩

theorem refName_any (x : Int) (w : World) : Calls Try.prog 10 #[.int .i64 x] w fun e w' => e = .returned (.string (nmo x)) ∧ w = w' := by
  rcases (show x < 0 ∨ x = 0 ∨ x = 1 ∨ x = 2 ∨ x = 3 ∨ x = 4 ∨ 5 ≤ x by omega) with h | rfl | rfl | rfl | rfl | rfl | h
  all_goals
    go_enter Try.func10, Try.ntmps10
    go_wp2
    go_ret
    exact ⟨ret_str (by simp [nmo, kn, *]), rfl⟩

theorem nxt_of (x f k : Int) (b1 b2 b4 b5 : Bool) (hk : kn x = k) (h1 : hsB f 1 = b1) (h2 : hsB f 2 = b2) (h4 : hsB f 4 = b4) (h5 : hsB f 16 = b5) :
    nxt x f = if b4 = true then 4 else if k = 0 ∨ k = 4 then k else if b1 = true then 3 else if k = 1 ∧ b5 = true ∧ b2 = false then 2 else k := by
  unfold nxt; rw [hk, h1, h2, h4, h5]

set_option maxHeartbeats 1600000 in
theorem next_any (x f : Int) (w : World) : Calls Try.prog 5 #[.int .i64 x, .int .i64 f] w fun e w' => e = .returned (.int .i64 (nxt x f)) ∧ w = w' := by
  rcases h1 : hsB f 1 with _ | _ <;> rcases h2 : hsB f 2 with _ | _ <;> rcases h4 : hsB f 4 with _ | _ <;> rcases h5 : hsB f 16 with _ | _
  all_goals
    rcases kn_cases x with h | h | h | h | h
    all_goals
      have N := Lib.hid (nxt_of x f _ _ _ _ _ h h1 h2 h4 h5)
      have H := Lib.hid h
      clear h
      go_enter Try.func5, Try.ntmps5
      go_wp2_with (first | (go_at_call 12; refine (known_any _ _ _ H.out).mono ?_; rintro e w' ⟨rfl, rfl⟩) | (go_at_call 13; refine (has_any _ _ _).mono ?_; rintro e w' ⟨rfl, rfl⟩))
      go_ret
      exact ⟨ret_int (by rw [N.out]; rfl), rfl⟩

theorem kn_small {x : Int} (h : 0 ≤ x ∧ x ≤ 4) : kn x = x := by unfold kn; rw [if_neg (by omega)]
theorem kn_odd {x : Int} (h : x < 0 ∨ 5 ≤ x) : kn x = 0 := by unfold kn; rw [if_pos h]

set_option maxHeartbeats 1600000 in
theorem refNext_any (x f : Int) (w : World) : Calls Try.prog 6 #[.int .i64 x, .int .i64 f] w fun e w' => e = .returned (.int .i64 (nxt x f)) ∧ w = w' := by
  rcases h1 : hsB f 1 with _ | _ <;> rcases h2 : hsB f 2 with _ | _ <;> rcases h4 : hsB f 4 with _ | _ <;> rcases h5 : hsB f 16 with _ | _
  all_goals
    have r0 := (rb0 f).trans h1
    have r1 := (rb1 f).trans h2
    have r2 := (rb2 f).trans h4
    have r4 := (rb4 f).trans h5
    have N := Lib.hid (fun k hk => nxt_of x f k _ _ _ _ hk h1 h2 h4 h5)
    clear h1 h2 h4 h5
    rcases (show x < 0 ∨ x = 0 ∨ x = 1 ∨ x = 2 ∨ x = 3 ∨ x = 4 ∨ 5 ≤ x by omega) with h | rfl | rfl | rfl | rfl | rfl | h
    all_goals
      go_enter Try.func6, Try.ntmps6
      go_wp2_with (go_at_call 14; refine (bit_any _ _ _ (by omega)).mono ?_; rintro e w' ⟨rfl, rfl⟩)
      go_ret
      exact ⟨ret_int (by rw [N.out _ (by first | exact kn_odd (Or.inl h) | exact kn_odd (Or.inr h) | exact kn_small (by decide))]; rfl), rfl⟩

theorem lives_any (w : World) : Calls Try.prog 11 #[] w fun e w' => e = .returned (.bool true) ∧ w = w' := by
  have e1 : nxt 1 16 = 2 := by decide
  have e2 : nxt 2 17 = 3 := by decide
  have e3 : tmo 4 = 3 := by decide
  have e4 : (nmo 2) = ⟨#[111, 112, 101, 110]⟩ := by simp [nmo, kn]
  go_enter Try.func11, Try.ntmps11
  go_wp2_with (first | (go_at_call 5; refine (next_any _ _ _).mono ?_; rintro e w' ⟨rfl, rfl⟩) | (go_at_call 7; refine (timeout_any _ _).mono ?_; rintro e w' ⟨rfl, rfl⟩) | (go_at_call 9; refine (name_any _ _).mono ?_; rintro e w' ⟨rfl, rfl⟩))
  go_ret
  exact ⟨rfl, rfl⟩

theorem phaseNext_any (x f : Int) (w : World) : Calls Try.prog 3 #[.int .i64 x, .int .i64 f] w fun e w' => e = .returned (.bool true) ∧ w = w' := by
  go_enter Try.func3, Try.ntmps3
  go_wp2_with (first | (go_at_call 5; refine (next_any _ _ _).mono ?_; rintro e w' ⟨rfl, rfl⟩) | (go_at_call 6; refine (refNext_any _ _ _).mono ?_; rintro e w' ⟨rfl, rfl⟩) | (go_at_call 7; refine (timeout_any _ _).mono ?_; rintro e w' ⟨rfl, rfl⟩) | (go_at_call 8; refine (refTimeout_any _ _).mono ?_; rintro e w' ⟨rfl, rfl⟩) | (go_at_call 9; refine (name_any _ _).mono ?_; rintro e w' ⟨rfl, rfl⟩) | (go_at_call 10; refine (refName_any _ _).mono ?_; rintro e w' ⟨rfl, rfl⟩) | (go_at_call 11; refine (lives_any _).mono ?_; rintro e w' ⟨rfl, rfl⟩))
  go_ret
  exact ⟨rfl, rfl⟩

theorem phaseNext.walk (x f : Int) (w : World) (_ : (Lit.int .i64 x).wf = true) (_ : (Lit.int .i64 f).wf = true) :
    Calls Try.prog 3 #[.int .i64 x, .int .i64 f] w fun e w' => e = .returned (.bool true) ∧ Below w.heap.size w w' :=
  (phaseNext_any x f w).mono fun _ _ ⟨h, hw⟩ => ⟨h, hw ▸ Below.refl _ _⟩
end Go.Proofs.Ytammeabkodddkaa
