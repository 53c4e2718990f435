/-
  The walks of the two Prime functions, and the plain law that they agree. No condition.
-/
import Derived.Test.YtgpdenhgbipopaaMem
import Derived.Deep.LoopGhost
namespace Go.Proofs.Ytgpdenhgbipopaa
open Go.ChangeShapes Go.WideShapes Go.ChangeAt Go.RowKit
set_option linter.unusedVariables false
set_option linter.unusedSimpArgs false

/-- No number from 2 on whose square is not beyond m divides m. -/
def Pr (m : Nat) : Prop := ∀ e, 2 ≤ e → e * e ≤ m → m % e ≠ 0
/-- What both functions tell of a number. -/
def IsPrime (n : Int) : Prop := 2 ≤ n ∧ n ≤ 1000000 ∧ Pr n.toNat
theorem pr_end {m d : Nat} (h : ∀ e, 2 ≤ e → e < d → m % e ≠ 0) (hd : m < d * d) : Pr m := by
  intro e h2 he
  refine h e h2 ?_
  rcases Nat.lt_or_ge e d with h3 | h3
  · exact h3
  · have := Nat.mul_le_mul h3 h3; omega
theorem pr_hit {m d : Nat} (h2 : 2 ≤ d) (hd : d < m) (h : m % d = 0) : ¬ Pr m := by
  intro hp
  obtain ⟨k, hk⟩ := Nat.dvd_of_mod_eq_zero h
  have hk1 : 2 ≤ k := by
    rcases k with _ | _ | k
    · omega
    · omega
    · omega
  rcases Nat.le_total d k with h3 | h3
  · exact hp d h2 (by rw [hk]; exact Nat.mul_le_mul_left d h3) h
  · exact hp k hk1 (by rw [hk]; exact Nat.mul_le_mul_right k h3) (by rw [hk]; exact Nat.mul_mod_left d k)
theorem pr_ref {m d : Nat} (hm : m ≤ 1000000) (h : ∀ e, 2 ≤ e → e < d → m % e ≠ 0) (hd : 1000 < d ∨ m ≤ d) : Pr m := by
  intro e h2 he
  refine h e h2 ?_
  have h4 : e * 2 ≤ e * e := Nat.mul_le_mul_left e h2
  rcases hd with hd | hd
  · rcases Nat.lt_or_ge e d with h3 | h3
    · exact h3
    · have h5 : 1001 * 1001 ≤ e * e := Nat.mul_le_mul (by omega) (by omega)
      omega
  · omega
def PrPost (m : Nat) (e : Ending) : Prop := ∃ b, e = .returned (.bool b) ∧ (b = true ↔ Pr m)
theorem prime_in (m : Nat) (w : World) (h2 : 2 ≤ m) (hm : m ≤ 1000000) : Calls Try.prog 11 #[.int .i64 m] w fun e w' => PrPost m e ∧ w = w' := by
  have t1 : decide ((m : Int) < 2) = false := by simp; omega
  have t2 : decide ((1000000 : Int) < m) = false := by simp; omega
  go_enter Try.func11, Try.ntmps11
  go_wp2_with fail
  go_step3
  go_wp2_with fail
  go_step3
  go_wp2_with fail
  go_loopg [3, 4] 1001 (fun gk s3 s4 wr => ∃ d : Nat, s3 = .bool true ∧ s4 = .int .i64 d ∧ 2 ≤ d ∧ d ≤ 1001 ∧ gk + d = 1003 ∧ Hid (∀ e, 2 ≤ e → e < d → m % e ≠ 0) ∧ wr = w)
  case atStart => exact ⟨2, rfl, rfl, by omega, by omega, by omega, fun e h1 h2 => by omega, rfl⟩
  case round =>
    obtain ⟨d, rfl, rfl, hd2, hd1, hgk, HI, rfl⟩ := hrel
    have hsq : d * d ≤ 1001 * 1001 := Nat.mul_le_mul hd1 hd1
    obtain ⟨q, hq⟩ : ∃ q, d * d = q := ⟨_, rfl⟩
    have hw : wrap64 ((d : Int) * (d : Int)) = (q : Int) := by
      rw [← Int.natCast_mul, hq]; exact IntWalk.wrap64_in _ (by omega)
    have HQ := Lib.hid hq
    rw [hq] at hsq
    clear hq
    by_cases hle : q ≤ m
    · have t3 : decide ((q : Int) ≤ (m : Int)) = true := by simp; omega
      have hd1000 : d ≤ 1000 := by
        rcases Nat.lt_or_ge d 1001 with h | h
        · omega
        · have := HQ.out
          have h5 : 1001 * 1001 ≤ d * d := Nat.mul_le_mul h h
          omega
      by_cases hdv : m % d = 0
      · have t4 : ((m : Int) % (d : Int) == 0) = true := by
          rw [← Int.natCast_emod, hdv]; rfl
        have HD := Lib.hid hdv
        clear hdv
        go_wp2_with fail
        first | go_ret | (rw [Exit.noGoto_ret]; go_ret)
        have hdm : d < m := by
          have h6 : d * 2 ≤ d * d := Nat.mul_le_mul_left d hd2
          have := HQ.out
          omega
        exact ⟨⟨false, rfl, by simp only [Bool.false_eq_true, false_iff]; exact pr_hit hd2 hdm HD.out⟩, rfl⟩
      · have t4 : ((m : Int) % (d : Int) == 0) = false := by
          rw [← Int.natCast_emod]
          simp only [beq_eq_false_iff_ne, ne_eq]
          omega
        have HD := Lib.hid hdv
        clear hdv
        go_wp2_with fail
        go_roundg (gk - 1)
        case rel =>
          refine ⟨d + 1, rfl, by go_num, by omega, by omega, by omega, fun e h1 h2 => ?_, rfl⟩
          rcases Nat.lt_or_ge e d with h3 | h3
          · exact HI.out e h1 h3
          · obtain rfl : e = d := by omega
            exact HD.out
        case measure => omega
    · have t3 : decide ((q : Int) ≤ (m : Int)) = false := by simp; omega
      go_wp2_with fail
      first | go_ret | (rw [Exit.noGoto_ret]; go_ret)
      exact ⟨⟨true, rfl, by simp only [true_iff]; exact pr_end HI.out (by rw [HQ.out]; omega)⟩, rfl⟩
theorem prime_out (n : Int) (w : World) (h : n < 2 ∨ 1000000 < n) : Calls Try.prog 11 #[.int .i64 n] w fun e w' => e = .returned (.bool false) ∧ w = w' := by
  rcases h with h | h
  · go_enter Try.func11, Try.ntmps11
    go_wp2_with fail
    go_step3
    go_wp2_with fail
    rw [Exit.noGoto_ret]
    go_ret
    exact ⟨rfl, rfl⟩
  · have t1 : decide (n < 2) = false := by simp; omega
    go_enter Try.func11, Try.ntmps11
    go_wp2_with fail
    go_step3
    go_wp2_with fail
    rw [Exit.noGoto_ret]
    go_ret
    exact ⟨rfl, rfl⟩
theorem refPrime_out (n : Int) (w : World) (h : n < 2 ∨ 1000000 < n) : Calls Try.prog 12 #[.int .i64 n] w fun e w' => e = .returned (.bool false) ∧ w = w' := by
  rcases h with h | h
  · go_enter Try.func12, Try.ntmps12
    go_wp2
    go_ret
    exact ⟨rfl, rfl⟩
  · have t1 : decide (n < 2) = false := by simp; omega
    go_enter Try.func12, Try.ntmps12
    go_wp2
    go_ret
    exact ⟨rfl, rfl⟩
theorem refPrime_in (m : Nat) (w : World) (h2 : 2 ≤ m) (hm : m ≤ 1000000) : Calls Try.prog 12 #[.int .i64 m] w fun e w' => PrPost m e ∧ w = w' := by
  have t1 : decide ((m : Int) < 2) = false := by simp; omega
  have t2 : decide ((1000000 : Int) < m) = false := by simp; omega
  go_enter Try.func12, Try.ntmps12
  go_wp2_with fail
  go_loopg [3] 1001 (fun gk s3 wr => ∃ d : Nat, s3 = .int .i64 d ∧ 2 ≤ d ∧ d ≤ 1001 ∧ gk + d = 1003 ∧ Hid (∀ e, 2 ≤ e → e < d → m % e ≠ 0) ∧ wr = w)
  case atStart => exact ⟨2, rfl, by omega, by omega, by omega, fun e h1 h2 => by omega, rfl⟩
  case round =>
    obtain ⟨d, rfl, hd2, hd1, hgk, HI, rfl⟩ := hrel
    by_cases hle : d ≤ 1000
    · have t3 : decide ((d : Int) ≤ 1000) = true := by simp; omega
      by_cases hlt : d < m
      · have t5 : decide ((d : Int) < (m : Int)) = true := by simp; omega
        by_cases hdv : m % d = 0
        · have t4 : ((m : Int) % (d : Int) == 0) = true := by
            rw [← Int.natCast_emod, hdv]; rfl
          have HD := Lib.hid hdv
          clear hdv
          go_wp2_with fail
          go_ret
          exact ⟨⟨false, rfl, by simp only [Bool.false_eq_true, false_iff]; exact pr_hit hd2 hlt HD.out⟩, rfl⟩
        · have t4 : ((m : Int) % (d : Int) == 0) = false := by
            rw [← Int.natCast_emod]
            simp only [beq_eq_false_iff_ne, ne_eq]
            omega
          have HD := Lib.hid hdv
          clear hdv
          go_wp2_with fail
          go_roundg (gk - 1)
          case rel =>
            refine ⟨d + 1, by go_num, by omega, by omega, by omega, fun e h1 h2 => ?_, rfl⟩
            rcases Nat.lt_or_ge e d with h3 | h3
            · exact HI.out e h1 h3
            · obtain rfl : e = d := by omega
              exact HD.out
          case measure => omega
      · have t5 : decide ((d : Int) < (m : Int)) = false := by simp; omega
        go_wp2_with fail
        go_ret
        exact ⟨⟨true, rfl, by simp only [true_iff]; exact pr_ref hm HI.out (Or.inr (by omega))⟩, rfl⟩
    · have t3 : decide ((d : Int) ≤ 1000) = false := by simp; omega
      go_wp2_with fail
      go_ret
      exact ⟨⟨true, rfl, by simp only [true_iff]; exact pr_ref hm HI.out (Or.inl (by omega))⟩, rfl⟩
/-- Whatever the number: what both tell, as a Bool. -/
noncomputable def primeB (n : Int) : Bool := @decide (IsPrime n) (Classical.propDecidable _)
theorem primeB_iff (n : Int) : primeB n = true ↔ IsPrime n := by unfold primeB; simp
theorem prB {n : Int} {b : Bool} (h : b = true ↔ IsPrime n) : b = primeB n := by rw [Bool.eq_iff_iff, h, primeB_iff]
theorem prime_any (n : Int) (w : World) : Calls Try.prog 11 #[.int .i64 n] w fun e w' => e = .returned (.bool (primeB n)) ∧ w = w' := by
  by_cases h : n < 2 ∨ 1000000 < n
  · have hb : false = primeB n := prB (by simp only [Bool.false_eq_true, false_iff]; intro hp; have := hp.1; have := hp.2.1; omega)
    rw [← hb]
    exact prime_out n w h
  · obtain ⟨m, rfl⟩ := Int.eq_ofNat_of_zero_le (show 0 ≤ n by omega)
    refine (prime_in m w (by omega) (by omega)).mono ?_
    rintro e w' ⟨⟨b, rfl, hb⟩, rfl⟩
    have hb2 : b = primeB (m : Int) := prB (by rw [hb]; exact ⟨fun h3 => ⟨by omega, by omega, h3⟩, fun h3 => h3.2.2⟩)
    exact ⟨by rw [hb2], rfl⟩
theorem refPrime_any (n : Int) (w : World) : Calls Try.prog 12 #[.int .i64 n] w fun e w' => e = .returned (.bool (primeB n)) ∧ w = w' := by
  by_cases h : n < 2 ∨ 1000000 < n
  · have hb : false = primeB n := prB (by simp only [Bool.false_eq_true, false_iff]; intro hp; have := hp.1; have := hp.2.1; omega)
    rw [← hb]
    exact refPrime_out n w h
  · obtain ⟨m, rfl⟩ := Int.eq_ofNat_of_zero_le (show 0 ≤ n by omega)
    refine (refPrime_in m w (by omega) (by omega)).mono ?_
    rintro e w' ⟨⟨b, rfl, hb⟩, rfl⟩
    have hb2 : b = primeB (m : Int) := prB (by rw [hb]; exact ⟨fun h3 => ⟨by omega, by omega, h3⟩, fun h3 => h3.2.2⟩)
    exact ⟨by rw [hb2], rfl⟩
end Go.Proofs.Ytgpdenhgbipopaa
