/-
  The walks of lives, and of PermPrimes. No condition.
-/
import Derived.Test.YtgpdenhgbipopaaOf
namespace Go.Proofs.Ytgpdenhgbipopaa
open Go.ChangeShapes Go.WideShapes Go.ChangeAt Go.RowKit
set_option linter.unusedVariables false
set_option linter.unusedSimpArgs false

theorem prime61 : primeB 61 = true := by
  rw [primeB_iff]
  refine ⟨by decide, by decide, fun e h2 he => ?_⟩
  have h8 : e < 8 := by
    rcases Nat.lt_or_ge e 8 with h | h
    · exact h
    · have := Nat.mul_le_mul h h; simp at he; omega
  rcases (show e = 2 ∨ e = 3 ∨ e = 4 ∨ e = 5 ∨ e = 6 ∨ e = 7 by omega) with rfl | rfl | rfl | rfl | rfl | rfl <;> decide
theorem not_prime {n : Int} (h : ¬ IsPrime n) : primeB n = false := by
  cases hb : primeB n with
  | false => rfl
  | true => exact absurd ((primeB_iff n).1 hb) h
theorem prime1 : primeB 1 = false := not_prime (fun h => by have := h.1; omega)
theorem prime91 : primeB 91 = false := not_prime (fun h => pr_hit (m := 91) (d := 7) (by omega) (by omega) (by decide) h.2.2)
theorem row_form {w : World} {B : Nat} {e : TypeId} {size n : Nat} {v : Value} {xs : List Value} (h : w.ownsRow B e size v n xs) : ∃ A c, v = .slice A n c := by
  rcases h.2 with ⟨rfl, h0⟩ | ⟨g, cap, cur, rfl, _⟩
  · exact ⟨none, 0, by rw [h0]⟩
  · exact ⟨_, _, rfl⟩
theorem lives_any (w : World) : Calls Try.prog 10 #[] w fun e w' => e = .returned (.bool true) ∧ Below w.heap.size w w' := by
  have s1 := Lib.hid prime61
  have s2 := Lib.hid prime1
  have s3 := Lib.hid prime91
  have s4 : Hid (skipI 0 0 1 2 = 1) := by have := skip_rng (x := 0) (y := 0) (a := 1) (m := 2) (by omega); unfold Hid; omega
  have s5 : Hid (mayI 2 = true) := by unfold Hid; decide
  go_enter Try.func10, Try.ntmps10
  go_wp2_with fail
  refine (prime_any 61 _).mono ?_; rintro e w' ⟨rfl, rfl⟩
  rw [s1.out]
  go_wp2_with fail
  refine (prime_any 1 _).mono ?_; rintro e w' ⟨rfl, rfl⟩
  rw [s2.out]
  go_wp2_with fail
  refine (prime_any 91 _).mono ?_; rintro e w' ⟨rfl, rfl⟩
  rw [s3.out]
  go_wp2_with fail
  refine (official_any _).mono ?_; rintro e w1 ⟨rfl, h1⟩
  have H1 := Lib.hid h1
  clear h1
  go_wp2_with fail
  refine (of_any _ _ 1 5 _ (by omega)).mono ?_; rintro e w2 ⟨v, rfl, hrow, h2⟩
  obtain ⟨A, c, rfl⟩ := row_form hrow
  have H2 := Lib.hid h2
  clear h2 hrow
  go_wp2_with fail
  refine (skip_any 0 0 1 2 _).mono ?_; rintro e w3 ⟨rfl, h3⟩
  rw [s5.out, if_pos rfl, s4.out]
  have H3 := Lib.hid h3
  clear h3
  go_wp2_with fail
  go_ret
  have b2 := H1.out.trans (H2.out.mono H1.out.size)
  first
    | exact ⟨rfl, b2.trans (H3.out.mono b2.size)⟩
    | exact ⟨rfl, (b2.alloc b2.size _).trans (H3.out.mono (b2.alloc b2.size _).size)⟩
theorem primes_walk (n : Int) (w : World) : Calls Try.prog 4 #[.int .i64 n] w fun e w' => e = .returned (.bool true) ∧ Below w.heap.size w w' := by
  have hs : (primeB n == primeB n) = true := by simp
  go_enter Try.func4, Try.ntmps4
  go_wp2_with fail
  refine (prime_any n _).mono ?_; rintro e w' ⟨rfl, rfl⟩
  go_wp2_with fail
  refine (refPrime_any n _).mono ?_; rintro e w' ⟨rfl, rfl⟩
  go_wp2_with fail
  refine (lives_any _).mono ?_; rintro e w1 ⟨rfl, h1⟩
  have H1 := Lib.hid h1
  clear h1
  go_wp2_with fail
  go_ret
  exact ⟨rfl, H1.out⟩
end Go.Proofs.Ytgpdenhgbipopaa
