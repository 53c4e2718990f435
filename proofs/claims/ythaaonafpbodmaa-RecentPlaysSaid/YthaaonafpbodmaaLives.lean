/-
  The walks of what is called on no list; lives. No condition.
-/
import Derived.Test.YthaaonafpbodmaaNew
namespace Go.Proofs.Ythaaonafpbodmaa
open Go.ChangeShapes Go.WideShapes Go.ChangeAt Go.RowKit
set_option linter.unusedVariables false
set_option linter.unusedSimpArgs false

theorem has_nil (i : Int) (w : World) : Calls Try.prog 15 #[.pointer none, .int .i64 i] w fun e w' => e = .returned (.bool false) ∧ w = w' := by
  go_enter Try.func15, Try.ntmps15
  go_wp2_with fail
  refine (may_nil _ _).mono ?_; rintro e w' ⟨rfl, rfl⟩
  go_wp2
  go_ret
  exact ⟨ret_bool rfl, rfl⟩
theorem drop_nil (i : Int) (w : World) : Calls Try.prog 9 #[.pointer none, .int .i64 i] w fun e w' => e = .returned (.bool false) ∧ w = w' := by
  go_enter Try.func9, Try.ntmps9
  go_wp2_with fail
  refine (has_nil _ _).mono ?_; rintro e w' ⟨rfl, rfl⟩
  go_wp2
  go_ret
  exact ⟨ret_bool rfl, rfl⟩
theorem touch_nil (i : Int) (w : World) : Calls Try.prog 7 #[.pointer none, .int .i64 i] w fun e w' => e = .returned (.bool false) ∧ w = w' := by
  go_enter Try.func7, Try.ntmps7
  go_wp2_with fail
  refine (may_nil _ _).mono ?_; rintro e w' ⟨rfl, rfl⟩
  go_wp2
  go_ret
  exact ⟨ret_bool rfl, rfl⟩
theorem oldest_nil (w : World) : Calls Try.prog 11 #[.pointer none] w fun e w' => e = .returned (.tuple #[.int .i64 0, .bool false]) ∧ w = w' := by
  go_enter Try.func11, Try.ntmps11
  go_wp2_with fail
  refine (len_nil _).mono ?_; rintro e w' ⟨rfl, rfl⟩
  go_wp2
  go_returns
  exact ⟨rfl, rfl⟩
section
variable (L : Nat) (w : World) (h : Blk w L 41 #[.pointer none])
include h
theorem has_bare (i : Int) : Calls Try.prog 15 #[.pointer (some ⟨L, 0, none⟩), .int .i64 i] w fun e w' => e = .returned (.bool false) ∧ w = w' := by
  have HH := Lib.hid h
  clear h
  go_enter Try.func15, Try.ntmps15
  go_wp2_with fail
  refine (may_bare L _ _ HH.out).mono ?_; rintro e w' ⟨rfl, rfl⟩
  go_wp2
  go_ret
  exact ⟨ret_bool rfl, rfl⟩
theorem drop_bare (i : Int) : Calls Try.prog 9 #[.pointer (some ⟨L, 0, none⟩), .int .i64 i] w fun e w' => e = .returned (.bool false) ∧ w = w' := by
  have HH := Lib.hid h
  clear h
  go_enter Try.func9, Try.ntmps9
  go_wp2_with fail
  refine (has_bare L _ HH.out _).mono ?_; rintro e w' ⟨rfl, rfl⟩
  go_wp2
  go_ret
  exact ⟨ret_bool rfl, rfl⟩
theorem touch_bare (i : Int) : Calls Try.prog 7 #[.pointer (some ⟨L, 0, none⟩), .int .i64 i] w fun e w' => e = .returned (.bool false) ∧ w = w' := by
  have HH := Lib.hid h
  clear h
  go_enter Try.func7, Try.ntmps7
  go_wp2_with fail
  refine (may_bare L _ _ HH.out).mono ?_; rintro e w' ⟨rfl, rfl⟩
  go_wp2
  go_ret
  exact ⟨ret_bool rfl, rfl⟩
theorem oldest_bare : Calls Try.prog 11 #[.pointer (some ⟨L, 0, none⟩)] w fun e w' => e = .returned (.tuple #[.int .i64 0, .bool false]) ∧ w = w' := by
  have HH := Lib.hid h
  clear h
  go_enter Try.func11, Try.ntmps11
  go_wp2_with fail
  refine (len_bare L _ HH.out).mono ?_; rintro e w' ⟨rfl, rfl⟩
  go_wp2
  go_returns
  exact ⟨rfl, rfl⟩
end

theorem touch_to {L R D U n : Nat} {l : List Nat} (l' : List Nat) (b : Bool) {x : Int} {w : World} (h : LS w L R D U n l) (hn : n ≤ 256) (hb : decide (0 ≤ x ∧ x < n) = b) (hl : (if 0 ≤ x ∧ x < n then x.toNat :: less l x.toNat else l) = l') :
    Calls Try.prog 7 #[.pointer (some ⟨L, 0, none⟩), .int .i64 x] w fun e w' => e = .returned (.bool b) ∧ LS w' L R D U n l' ∧ Chg (Own R D U) w w' := by
  have := touch_any L R D U n l x w h hn
  rw [hb, hl] at this
  exact this
theorem lives_any (w : World) : Calls Try.prog 6 #[] w fun e w' => e = .returned (.bool true) ∧ Below w.heap.size w w' := by
  go_enter Try.func6, Try.ntmps6
  go_wp2_with fail
  refine (new_any 3 _ (by omega) (by omega)).mono ?_; rintro e w1 ⟨L, R, D, U, rfl, h1, k1, k2, k3, k4⟩
  have H1 := Lib.hid h1
  have K4 := Lib.hid k4
  clear h1 k4
  go_wp2_with fail
  refine (touch_to [1] true H1.out (by omega) (by decide) (by decide)).mono ?_; rintro e w2 ⟨rfl, h2, c2⟩
  have H2 := Lib.hid h2
  have C2 := Lib.hid c2
  clear h2 c2
  go_wp2_with fail
  refine (touch_to [2, 1] true H2.out (by omega) (by decide) (by decide)).mono ?_; rintro e w3 ⟨rfl, h3, c3⟩
  have H3 := Lib.hid h3
  have C3 := Lib.hid c3
  clear h3 c3
  go_wp2_with fail
  refine (touch_to [1, 2] true H3.out (by omega) (by decide) (by decide)).mono ?_; rintro e w4 ⟨rfl, h4, c4⟩
  have H4 := Lib.hid h4
  have C4 := Lib.hid c4
  clear h4 c4
  go_wp2_with fail
  refine (oldest_any L R D U 3 [1, 2] _ H4.out (by omega)).mono ?_; rintro e w5 ⟨rfl, c5, h5⟩
  have H5 := Lib.hid h5
  have C5 := Lib.hid c5
  clear h5 c5
  go_wp2_with fail
  refine (len_ls L R D U 3 [1, 2] _ H5.out).mono ?_; rintro e w' ⟨rfl, rfl⟩
  go_wp2_with fail
  refine (touch_to [1, 2] false H5.out (by omega) (by decide) (by decide)).mono ?_; rintro e w6 ⟨rfl, h6, c6⟩
  have H6 := Lib.hid h6
  have C6 := Lib.hid c6
  clear h6 c6
  go_wp2_with fail
  refine (new_none 0 _ (by omega)).mono ?_; rintro e w' ⟨rfl, rfl⟩
  go_wp2
  go_ret
  refine ⟨rfl, ?_⟩
  have hc := (((C2.out.trans C3.out (fun _ _ h => h)).trans C4.out (fun _ _ h => h)).trans C5.out (fun _ _ h => h)).trans C6.out (fun _ _ h => h)
  exact below_chg K4.out hc K4.out.size (fun k hk h => by unfold Own at h; omega)
end Go.Proofs.Ythaaonafpbodmaa
