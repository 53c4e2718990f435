/-
  The chapter's example (lives), and PolicyNil. No condition.
-/
import Derived.Test.YtaohaoefpnoebaaNews
namespace Go.Proofs.Ytaohaoefpnoebaa
open Go.ChangeShapes Go.WideShapes Go.ChangeAt Go.RowKit
set_option linter.unusedVariables false

theorem ok_of {k : Int} (h : k = 1 ∨ k = 2 ∨ k = 3) (l s : Int) (w : World) : Blk (w.alloc (.cells (cells (fnOf k) (fresh l s)) 38)) w.heap.size 38 (cells (fnOf k) (fresh l s)) := Blk.new _ _ _

set_option maxHeartbeats 800000 in
theorem lives_any (w : World) : Calls Try.prog 11 #[] w fun e w' => e = .returned (.bool true) ∧ Below w.heap.size w w' := by
  have hp : ∀ W : World, ∀ b, b < W.heap.size → True := fun _ _ _ => trivial
  have v1 : says 2 (fresh 2 2) 0 = true := by decide
  have v2 : says 2 (step 2 (fresh 2 2) 0) 0 = true := by decide
  have v3 : (step 2 (step 2 (fresh 2 2) 0) 0).a = 1 := by decide
  have v4 : says 3 (fresh 0 0) 99 = true := by decide
  have v5 : says 1 (fresh 3 1) 3 = false := by decide
  clear hp
  go_enter Try.func11, Try.ntmps11
  go_wp2_with fail
  refine (new_any 2 2 2 _ (by decide)).mono ?_; rintro e w1 ⟨rfl, hw1⟩
  have B1 : Blk w1 w.heap.size 38 (cells (fnOf 2) (fresh 2 2)) := by rw [hw1]; exact Blk.new _ _ _
  have C1 : Below w.heap.size w w1 := by rw [hw1]; exact (Below.refl _ _).alloc (Nat.le_refl _) _
  have HB1 := Lib.hid B1
  have HC1 := Lib.hid C1
  clear B1 C1 hw1
  go_wp2_with fail
  refine (accept_any 2 0 _ _ _ (by decide) HB1.out (fresh_ok _ _)).mono ?_; rintro e w2 ⟨rfl, hl2⟩
  have HL2 := Lib.hid hl2
  clear hl2
  go_wp2_with fail
  refine (accept_any 2 0 _ _ _ (by decide) HL2.out.1 (step_ok _ (fresh_ok _ _) _)).mono ?_; rintro e w3 ⟨rfl, hl3⟩
  have HL3 := Lib.hid hl3
  clear hl3
  go_wp2_with fail
  refine (limit_any _ _ _ _ HL3.out.1).mono ?_; rintro e w' ⟨rfl, rfl⟩
  go_wp2_with fail
  refine (new_none 4 1 1 _ (by decide)).mono ?_; rintro e w4 ⟨rfl, hw4⟩
  have HC4 := Lib.hid hw4
  clear hw4
  go_wp2_with fail
  refine (new_any 3 0 0 _ (by decide)).mono ?_; rintro e w5 ⟨rfl, hw5⟩
  have B5 : Blk w5 w4.heap.size 38 (cells (fnOf 3) (fresh 0 0)) := by rw [hw5]; exact Blk.new _ _ _
  have C5 : Below w4.heap.size w4 w5 := by rw [hw5]; exact (Below.refl _ _).alloc (Nat.le_refl _) _
  have HB5 := Lib.hid B5
  have HC5 := Lib.hid C5
  clear B5 C5 hw5
  go_wp2_with fail
  refine (accept_any 3 99 _ _ _ (by decide) HB5.out (fresh_ok _ _)).mono ?_; rintro e w6 ⟨rfl, hl6⟩
  have HL6 := Lib.hid hl6
  clear hl6
  go_wp2_with fail
  refine (new_any 1 3 1 _ (by decide)).mono ?_; rintro e w7 ⟨rfl, hw7⟩
  have B7 : Blk w7 w6.heap.size 38 (cells (fnOf 1) (fresh 3 1)) := by rw [hw7]; exact Blk.new _ _ _
  have C7 : Below w6.heap.size w6 w7 := by rw [hw7]; exact (Below.refl _ _).alloc (Nat.le_refl _) _
  have HB7 := Lib.hid B7
  have HC7 := Lib.hid C7
  clear B7 C7 hw7
  go_wp2_with fail
  refine (accept_any 1 3 _ _ _ (by decide) HB7.out (fresh_ok _ _)).mono ?_; rintro e w8 ⟨rfl, hl8⟩
  have HL8 := Lib.hid hl8
  clear hl8
  go_wp2_with fail
  go_ret
  refine ⟨rfl, ?_⟩
  have s1 := HC1.out.size
  have s2 := HL2.out.2.size
  have s3 := HL3.out.2.size
  have s4 := HC4.out.size
  have s5 := HC5.out.size
  have s6 := HL6.out.2.size
  have s7 := HC7.out.size
  have a2 := below_chg HC1.out HL2.out.2 (by omega) (fun k hk => by omega)
  have a3 := below_chg a2 HL3.out.2 (by omega) (fun k hk => by omega)
  have a4 := a3.trans (HC4.out.mono (by omega))
  have a5 := a4.trans (HC5.out.mono (by omega))
  have a6 := below_chg a5 HL6.out.2 (by omega) (fun k hk => by omega)
  have a7 := a6.trans (HC7.out.mono (by omega))
  exact below_chg a7 HL8.out.2 (by omega) (fun k hk => by omega)

theorem policyNil_any (l : Int) (w : World) : Calls Try.prog 5 #[.int .i64 l] w fun e w' => e = .returned (.bool true) ∧ Below w.heap.size w w' := by
  go_enter Try.func5, Try.ntmps5
  go_wp2_with fail
  refine (accept_nil _ _).mono ?_; rintro e w1 ⟨rfl, rfl⟩
  go_wp2_with fail
  refine (accept_odd _ _ _ _ (Blk.new _ _ _) rfl).mono ?_; rintro e w1 ⟨rfl, rfl⟩
  go_wp2_with fail
  refine (limit_nil _).mono ?_; rintro e w1 ⟨rfl, rfl⟩
  go_wp2_with fail
  refine (limit_odd _ _ _ 0 (Blk.new _ _ _) rfl).mono ?_; rintro e w1 ⟨rfl, rfl⟩
  go_wp2_with fail
  refine (lives_any _).mono ?_; rintro e w1 ⟨rfl, hw⟩
  have HW := Lib.hid hw
  clear hw
  go_wp2_with fail
  go_ret
  exact ⟨rfl, ((Below.refl _ _).alloc (Nat.le_refl _) _).trans (HW.out.mono (by simp))⟩

theorem policyNil.walk (l : Int) (w : World) (_ : (Lit.int .i64 l).wf = true) : Calls Try.prog 5 #[.int .i64 l] w fun e w' => e = .returned (.bool true) ∧ Below w.heap.size w w' := policyNil_any l w
end Go.Proofs.Ytaohaoefpnoebaa
