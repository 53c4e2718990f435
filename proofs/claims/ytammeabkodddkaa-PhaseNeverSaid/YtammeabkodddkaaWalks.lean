/-
  Contracts of the functions of seat 25: what each returns, as a Lean function of its numbers. No condition.
-/
import Derived.Test.YtammeabkodddkaaRows
import Derived.WalkKit
import Derived.ProofKit
import Derived.OpenShut
import Derived.Below
import Derived.Laws.BitsLemmas
import Derived.Laws.BitsAllLaws
import Derived.Handy
import Derived.Lib.Hide
import Derived.Deep.Light
namespace Go.Proofs.Ytammeabkodddkaa
open Go.ChangeShapes Go.WideShapes Go.ChangeAt Go.RowKit
set_option linter.unusedVariables false

theorem ret_int {k : IntKind} {a b : Int} (h : a = b) : Ending.returned (.int k a) = .returned (.int k b) := by rw [h]
theorem ret_bool {a b : Bool} (h : a = b) : Ending.returned (.bool a) = .returned (.bool b) := by rw [h]

def kn (s : Int) : Int := if s < 0 ∨ 5 ≤ s then 0 else s
theorem kn_cases (s : Int) : kn s = 0 ∨ kn s = 1 ∨ kn s = 2 ∨ kn s = 3 ∨ kn s = 4 := by unfold kn; split <;> omega
def hsB (x n : Int) : Bool := bits .and .i64 x n == n
def rbB (x n : Int) : Bool := bits .and .i64 (x / 2 ^ n.toNat) 1 == 1

theorem and_toNat (x : Int) (k : Nat) (hk : k < 18446744073709551616) : bits .and .i64 x (k : Int) = IntKind.i64.wrap (((x % 18446744073709551616).toNat &&& k : Nat) : Int) := by
  have h : (BitVec.ofInt 64 x &&& BitVec.ofInt 64 (k : Int)).toNat = ((x % 18446744073709551616).toNat &&& k) := by
    rw [BitVec.toNat_and, ofInt_u64 k hk]
    congr 1
  show IntKind.i64.wrap ((BitVec.ofInt 64 x &&& BitVec.ofInt 64 (k : Int)).toNat : Int) = _
  rw [h]
theorem hs1 (x : Int) : hsB x 1 = decide (x % 2 = 1) := by
  unfold hsB
  rw [show (1 : Int) = ((1 : Nat) : Int) from rfl, and_toNat x 1 (by decide), show (1 : Nat) = 2 ^ 0 from rfl, nat_bit, IntKind.wrap_i64, Bool.eq_iff_iff]
  simp
  omega
theorem hs2 (x : Int) : hsB x 2 = decide (x / 2 % 2 = 1) := by
  unfold hsB
  rw [show (2 : Int) = ((2 : Nat) : Int) from rfl, and_toNat x 2 (by decide), show (x % 18446744073709551616).toNat &&& 2 = (x % 18446744073709551616).toNat / 2 ^ 1 % 2 * 2 ^ 1 from nat_bit 1 _, IntKind.wrap_i64, Bool.eq_iff_iff]
  simp
  omega
theorem hs4 (x : Int) : hsB x 4 = decide (x / 4 % 2 = 1) := by
  unfold hsB
  rw [show (4 : Int) = ((4 : Nat) : Int) from rfl, and_toNat x 4 (by decide), show (x % 18446744073709551616).toNat &&& 4 = (x % 18446744073709551616).toNat / 2 ^ 2 % 2 * 2 ^ 2 from nat_bit 2 _, IntKind.wrap_i64, Bool.eq_iff_iff]
  simp
  omega
theorem hs16 (x : Int) : hsB x 16 = decide (x / 16 % 2 = 1) := by
  unfold hsB
  rw [show (16 : Int) = ((16 : Nat) : Int) from rfl, and_toNat x 16 (by decide), show (x % 18446744073709551616).toNat &&& 16 = (x % 18446744073709551616).toNat / 2 ^ 4 % 2 * 2 ^ 4 from nat_bit 4 _, IntKind.wrap_i64, Bool.eq_iff_iff]
  simp
  omega
theorem rb_hs (x : Int) (n : Int) : rbB x n = hsB (x / 2 ^ n.toNat) 1 := rfl
theorem rb0 (x : Int) : rbB x 0 = hsB x 1 := by rw [rb_hs, hs1, hs1]; simp
theorem rb1 (x : Int) : rbB x 1 = hsB x 2 := by rw [rb_hs, hs1, hs2]; simp
theorem rb2 (x : Int) : rbB x 2 = hsB x 4 := by rw [rb_hs, hs1, hs4]; simp
theorem rb4 (x : Int) : rbB x 4 = hsB x 16 := by rw [rb_hs, hs1, hs16]; simp

/-- The state behind a segment. -/
def nxt (s f : Int) : Int :=
  if hsB f 4 = true then 4 else if kn s = 0 ∨ kn s = 4 then kn s else if hsB f 1 = true then 3
  else if kn s = 1 ∧ hsB f 16 = true ∧ hsB f 2 = false then 2 else kn s
def tmo (s : Int) : Int := if kn s = 0 then 8 else if kn s = 1 then 16 else if kn s = 2 then 40 else if kn s = 3 then 12 else 3
def nmo (s : Int) : ByteArray := if kn s = 0 then ⟨#[112, 101, 110, 100, 105, 110, 103]⟩ else if kn s = 1 then ⟨#[108, 101, 97, 114, 110, 116]⟩ else if kn s = 2 then ⟨#[111, 112, 101, 110]⟩ else if kn s = 3 then ⟨#[99, 108, 111, 115, 105, 110, 103]⟩ else ⟨#[103, 111, 110, 101]⟩

theorem known_any (s k : Int) (w : World) (hk : kn s = k) : Calls Try.prog 12 #[.int .i64 s] w fun e w' => e = .returned (.int .i64 k) ∧ w = w' := by
  unfold kn at hk
  have H := Lib.hid hk
  clear hk
  go_enter Try.func12, Try.ntmps12
  go_wp2
  all_goals go_ret
  all_goals exact ⟨ret_int (by have := H.out; split at this <;> omega), rfl⟩

theorem has_any (x n : Int) (w : World) : Calls Try.prog 13 #[.int .i64 x, .int .i64 n] w fun e w' => e = .returned (.bool (hsB x n)) ∧ w = w' := by
  go_enter Try.func13, Try.ntmps13
  go_wp2
  go_ret
  exact ⟨ret_bool rfl, rfl⟩

theorem bit_any (x n : Int) (w : World) (hn : 0 ≤ n ∧ n ≤ 4): Calls Try.prog 14 #[.int .i64 x, .int .i64 n] w fun e w' => e = .returned (.bool (rbB x n)) ∧ w = w' := by
  go_enter Try.func14, Try.ntmps14
  go_wp2
  go_ret
  exact ⟨ret_bool rfl, rfl⟩

theorem timeout_any (x : Int) (w : World) : Calls Try.prog 7 #[.int .i64 x] w fun e w' => e = .returned (.int .i64 (tmo x)) ∧ w = w' := by
  have i0 : ∀ w, (Instr.index 29 (.agg #[.int .i64 8, .int .i64 16, .int .i64 40, .int .i64 12, .int .i64 3]) (.int .i64 0)).run Try.prog w = .ok (.int .i64 8) w := fun _ => by kernel_rfl
  have i1 : ∀ w, (Instr.index 29 (.agg #[.int .i64 8, .int .i64 16, .int .i64 40, .int .i64 12, .int .i64 3]) (.int .i64 1)).run Try.prog w = .ok (.int .i64 16) w := fun _ => by kernel_rfl
  have i2 : ∀ w, (Instr.index 29 (.agg #[.int .i64 8, .int .i64 16, .int .i64 40, .int .i64 12, .int .i64 3]) (.int .i64 2)).run Try.prog w = .ok (.int .i64 40) w := fun _ => by kernel_rfl
  have i3 : ∀ w, (Instr.index 29 (.agg #[.int .i64 8, .int .i64 16, .int .i64 40, .int .i64 12, .int .i64 3]) (.int .i64 3)).run Try.prog w = .ok (.int .i64 12) w := fun _ => by kernel_rfl
  have i4 : ∀ w, (Instr.index 29 (.agg #[.int .i64 8, .int .i64 16, .int .i64 40, .int .i64 12, .int .i64 3]) (.int .i64 4)).run Try.prog w = .ok (.int .i64 3) w := fun _ => by kernel_rfl
  rcases kn_cases x with h | h | h | h | h
  all_goals
    have H := Lib.hid h
    clear h
    go_enter Try.func7, Try.ntmps7
    go_wp2_with (go_at_call 12; refine (known_any _ _ _ H.out).mono ?_; rintro e w' ⟨rfl, rfl⟩)
    go_ret
    exact ⟨ret_int (by simp [tmo, H.out]), rfl⟩

theorem ret_str {a b : ByteArray} (h : a = b) : Ending.returned (.string a) = .returned (.string b) := by rw [h]

theorem refTimeout_any (x : Int) (w : World) : Calls Try.prog 8 #[.int .i64 x] w fun e w' => e = .returned (.int .i64 (tmo x)) ∧ w = w' := by
  have H := Lib.hid (rfl : tmo x = tmo x)
  go_enter Try.func8, Try.ntmps8
  go_wp2
  all_goals go_ret
  all_goals (refine ⟨ret_int ?_, rfl⟩; simp only [tmo, kn]; (repeat' split) <;> first | rfl | (simp_all; done) | (simp_all; omega))
end Go.Proofs.Ytammeabkodddkaa
