/-
  Contracts of the functions of seat 27: what each returns, as a Lean function of its numbers. No condition beyond that the numbers fit their kinds.
-/
import Derived.Test.YtbmhpheclkapnaaRows
import Derived.WalkKit
import Derived.ProofKit
import Derived.OpenShut
import Derived.Below
import Derived.Laws.BitsLemmas
import Derived.Handy
import Derived.Lib.Hide
namespace Go.Proofs.Ytbmhpheclkapnaa
open Go.ChangeShapes Go.WideShapes Go.ChangeAt Go.RowKit
set_option linter.unusedVariables false

theorem ret_int {k : IntKind} {a b : Int} (h : a = b) : Ending.returned (.int k a) = .returned (.int k b) := by rw [h]
theorem ret_bool {a b : Bool} (h : a = b) : Ending.returned (.bool a) = .returned (.bool b) := by rw [h]

/-- How much a is ahead of b, round. -/
def sdf (a b : Int) : Int := ((a - b) % 4294967296 + 2147483648) % 4294967296 - 2147483648
def lsB (a b : Int) : Bool := decide (sdf a b < 0)
def ltr (a b : Int) : Int := if sdf a b < 0 then b else a
def wiB (a b n : Int) : Bool := decide (0 < n ∧ (a - b) % 4294967296 < n)

theorem sdf_lo (a b : Int) : -2147483648 ≤ sdf a b := by unfold sdf; omega
theorem sdf_hi (a b : Int) : sdf a b ≤ 2147483647 := by unfold sdf; omega

/-- The low half of a number. -/
theorem low32 (x : Int) : bits .and .i64 x 4294967295 = x % 4294967296 := by
  have h : (BitVec.ofInt 64 x &&& BitVec.ofInt 64 4294967295).toNat = ((x % 18446744073709551616).toNat &&& 4294967295) := by
    rw [BitVec.toNat_and]
    congr 1
  show IntKind.i64.wrap ((BitVec.ofInt 64 x &&& BitVec.ofInt 64 4294967295).toNat : Int) = _
  rw [h, show (4294967295 : Nat) = 2 ^ 32 - 1 from rfl, Nat.and_two_pow_sub_one_eq_mod, IntKind.wrap_i64]
  omega

theorem seqDiff_any (a b : Int) (w : World) (ha : 0 ≤ a ∧ a ≤ 4294967295) (hb : 0 ≤ b ∧ b ≤ 4294967295) :
    Calls Try.prog 6 #[.int .u32 a, .int .u32 b] w fun e w' => e = .returned (.int .i64 (sdf a b)) ∧ w = w' := by
  go_enter Try.func6, Try.ntmps6
  go_wp2
  go_ret
  exact ⟨ret_int (by unfold sdf wrap64 wrap32; omega), rfl⟩

theorem refDiff_any (a b : Int) (w : World) (ha : 0 ≤ a ∧ a ≤ 4294967295) (hb : 0 ≤ b ∧ b ≤ 4294967295) :
    Calls Try.prog 5 #[.int .u32 a, .int .u32 b] w fun e w' => e = .returned (.int .i64 (sdf a b)) ∧ w = w' := by
  go_enter Try.func5, Try.ntmps5
  go_wp2
  · have h : 2147483648 ≤ bits BinOp.and IntKind.i64 (a - b) 4294967295 := by assumption
    rw [low32] at h
    go_ret
    exact ⟨ret_int (by rw [low32]; unfold sdf wrap64; omega), rfl⟩
  · have h : bits BinOp.and IntKind.i64 (a - b) 4294967295 < 2147483648 := by assumption
    rw [low32] at h
    go_ret
    exact ⟨ret_int (by rw [low32]; unfold sdf; omega), rfl⟩

theorem less_any (a b : Int) (w : World) (ha : 0 ≤ a ∧ a ≤ 4294967295) (hb : 0 ≤ b ∧ b ≤ 4294967295) :
    Calls Try.prog 7 #[.int .u32 a, .int .u32 b] w fun e w' => e = .returned (.bool (lsB a b)) ∧ w = w' := by
  go_enter Try.func7, Try.ntmps7
  go_wp2_with (go_at_call 6; refine (seqDiff_any _ _ _ ha hb).mono ?_; rintro e w' ⟨rfl, rfl⟩)
  go_ret
  exact ⟨ret_bool rfl, rfl⟩

theorem later_any (a b : Int) (w : World) (ha : 0 ≤ a ∧ a ≤ 4294967295) (hb : 0 ≤ b ∧ b ≤ 4294967295) :
    Calls Try.prog 8 #[.int .u32 a, .int .u32 b] w fun e w' => e = .returned (.int .u32 (ltr a b)) ∧ w = w' := by
  by_cases h : sdf a b < 0
  · have hl : lsB a b = true := by unfold lsB; simpa using h
    have H : Hid (ltr a b = b) := by unfold Hid ltr; rw [if_pos h]
    clear h
    go_enter Try.func8, Try.ntmps8
    go_wp2_with (first | (go_at_call 7; refine (less_any _ _ _ ha hb).mono ?_; rintro e w' ⟨rfl, rfl⟩) | go_in)
    go_ret
    exact ⟨ret_int (by rw [H.out]), rfl⟩
  · have hl : lsB a b = false := by unfold lsB; simpa using h
    have H : Hid (ltr a b = a) := by unfold Hid ltr; rw [if_neg h]
    clear h
    go_enter Try.func8, Try.ntmps8
    go_wp2_with (first | (go_at_call 7; refine (less_any _ _ _ ha hb).mono ?_; rintro e w' ⟨rfl, rfl⟩) | go_in)
    go_ret
    exact ⟨ret_int (by rw [H.out]), rfl⟩

theorem within_any (a b n : Int) (w : World) (ha : 0 ≤ a ∧ a ≤ 4294967295) (hb : 0 ≤ b ∧ b ≤ 4294967295) :
    Calls Try.prog 9 #[.int .u32 a, .int .u32 b, .int .i64 n] w fun e w' => e = .returned (.bool (wiB a b n)) ∧ w = w' := by
  go_enter Try.func9, Try.ntmps9
  go_wp2
  · go_ret
    have h : 0 < n := by assumption
    exact ⟨ret_bool (by simp [wiB, h]), rfl⟩
  · go_ret
    have h : n ≤ 0 := by assumption
    exact ⟨ret_bool (by simp [wiB]; omega), rfl⟩

theorem refWithin_any (a b n : Int) (w : World) (ha : 0 ≤ a ∧ a ≤ 4294967295) (hb : 0 ≤ b ∧ b ≤ 4294967295) :
    Calls Try.prog 10 #[.int .u32 a, .int .u32 b, .int .i64 n] w fun e w' => e = .returned (.bool (wiB a b n)) ∧ w = w' := by
  by_cases h : a < b
  · go_enter Try.func10, Try.ntmps10
    go_wp2
    go_ret
    exact ⟨ret_bool (by simp only [wiB, decide_eq_decide]; omega), rfl⟩
  · go_enter Try.func10, Try.ntmps10
    go_wp2
    go_ret
    exact ⟨ret_bool (by simp only [wiB, decide_eq_decide]; omega), rfl⟩

theorem lives_any (w : World) : Calls Try.prog 11 #[] w fun e w' => e = .returned (.bool true) ∧ w = w' := by
  have e1 : sdf 0 4294967295 = 1 := by decide
  have e2 : lsB 4294967295 0 = true := by decide
  have e3 : ltr 4294967295 0 = 0 := by decide
  have e4 : wiB 1 4294967295 3 = true := by decide
  have e5 : wiB 2 4294967295 3 = false := by decide
  go_enter Try.func11, Try.ntmps11
  go_wp2_with (first | (go_at_call 6; refine (seqDiff_any _ _ _ (by omega) (by omega)).mono ?_; rintro e w' ⟨rfl, rfl⟩) | (go_at_call 7; refine (less_any _ _ _ (by omega) (by omega)).mono ?_; rintro e w' ⟨rfl, rfl⟩) | (go_at_call 8; refine (later_any _ _ _ (by omega) (by omega)).mono ?_; rintro e w' ⟨rfl, rfl⟩) | (go_at_call 9; refine (within_any _ _ _ _ (by omega) (by omega)).mono ?_; rintro e w' ⟨rfl, rfl⟩))
  go_ret
  exact ⟨rfl, rfl⟩
end Go.Proofs.Ytbmhpheclkapnaa
