/-
  The walk of the document's Sum. No condition beyond at most 3,000 bytes.
-/
import Derived.Test.YtgpdenhgbipopaaRefWords
namespace Go.Proofs.Ytgpdenhgbipopaa
open Go.ChangeShapes Go.WideShapes Go.ChangeAt Go.RowKit
set_option linter.unusedVariables false

def eatJ (bs : List Int) (s : V) : Nat → V
  | 0 => s
  | i + 1 => tk (eatJ bs s i) (wJ bs i)
theorem eatJ_lo (bs : List Int) (s : V) (i : Nat) (h : i ≤ bs.length / 8) : eatJ bs s i = eat bs s i := by
  induction i with
  | zero => rfl
  | succ i ih =>
    unfold eatJ eat
    rw [ih (by omega)]
    unfold wJ
    rw [if_neg (by omega)]
theorem eatJ_all (bs : List Int) (s : V) : eatJ bs s (bs.length / 8 + 1) = tk (eat bs s (bs.length / 8)) (lastW bs) := by
  unfold eatJ
  rw [eatJ_lo _ _ _ (Nat.le_refl _)]
  unfold wJ
  rw [if_pos rfl]

theorem round_val (a b c d : Int) (w : World) :
    Calls Try.prog 30 #[.int .u64 a, .int .u64 b, .int .u64 c, .int .u64 d] w fun e w' => e = .returned (.tuple #[.int .u64 (rnd ⟨a, b, c, d⟩).a, .int .u64 (rnd ⟨a, b, c, d⟩).b, .int .u64 (rnd ⟨a, b, c, d⟩).c, .int .u64 (rnd ⟨a, b, c, d⟩).d]) ∧ w = w' := ref_round ⟨a, b, c, d⟩ w

set_option maxRecDepth 100000 in
theorem refSum_any (x y : Int) (A : Option Addr) (n c : Nat) (bs : List Int) (w : World) (h : BRow w A n bs) (hn : n ≤ 3000) :
    Calls Try.prog 23 #[.agg #[.int .u64 x, .int .u64 y], .slice A n c] w fun e w' => e = .returned (.int .u64 (sumI x y bs)) ∧ Below w.heap.size w w' := by
  have HH := Lib.hid h
  clear h
  go_enter Try.func23, Try.ntmps23
  go_wp2_with fail
  go_quiet (fail)
  have HB0 : Hid (Below w.heap.size w ((w.alloc (.cells #[.int .u64 x, .int .u64 y] 27)).drewN nq)) := below_draws ((Below.refl _ _).alloc (Nat.le_refl _) _) _
  go_wp2_with fail
  refine (words_any A n c bs _ (HH.out.later HB0.out) hn).mono ?_
  rintro e w1 ⟨g, c1, rfl, hg, hgl, hc, hB⟩
  have HB1 := Lib.hid (HB0.out.trans (hB.mono HB0.out.size))
  have HC := Lib.hid hc
  clear hB hc hg HB0
  go_wp2_with fail
  go_loopg [5, 6, 7, 8, 10] (n / 8 + 1) (fun gk s5 s6 s7 s8 s10 wr => ∃ (i : Nat) (v0 v1 v2 v3 : Int), s5 = .int .u64 v0 ∧ s6 = .int .u64 v1 ∧ s7 = .int .u64 v2 ∧ s8 = .int .u64 v3 ∧ s10 = .int .i64 i ∧ i + gk = n / 8 + 1 ∧ Hid ((⟨v0, v1, v2, v3⟩ : V) = eatJ bs (bgn x y) i) ∧ Hid (Below w.heap.size w wr ∧ (∀ j, j < n / 8 + 1 → wr.cell? ⟨g, j, none⟩ = some (.int .u64 (wJ bs j)))))
  case atStart => exact ⟨0, _, _, _, _, rfl, rfl, rfl, rfl, rfl, by omega, rfl, HB1.out, HC.out⟩
  case round =>
    obtain ⟨i, v0, v1, v2, v3, rfl, rfl, rfl, rfl, rfl, hik, HE, HI⟩ := hrel
    by_cases hlt : i < n / 8 + 1
    · have x0 := HI.out.2 i hlt
      have e0 : True := trivial
      go_wp2_with fail
      refine (round_val v0 v1 v2 (xr v3 (wJ bs i)) _).mono ?_; rintro e w2 ⟨rfl, rfl⟩
      obtain ⟨p, hp⟩ : ∃ p, rnd ⟨v0, v1, v2, xr v3 (wJ bs i)⟩ = p := ⟨_, rfl⟩
      rw [hp]
      have HP := Lib.hid hp
      clear hp
      go_wp2_with fail
      refine (round_val p.a p.b p.c p.d _).mono ?_; rintro e w2 ⟨rfl, rfl⟩
      obtain ⟨q, hq⟩ : ∃ q, rnd ⟨p.a, p.b, p.c, p.d⟩ = q := ⟨_, rfl⟩
      rw [hq]
      have HQ := Lib.hid hq
      clear hq
      go_wp2
      go_roundg (gk - 1)
      case rel =>
        refine ⟨i + 1, _, _, _, _, rfl, rfl, rfl, rfl, by go_num, by omega, ?_, HI.out.1, HI.out.2⟩
        unfold Hid
        show (⟨xr q.a (wJ bs i), q.b, q.c, q.d⟩ : V) = tk (eatJ bs (bgn x y) i) (wJ bs i)
        rw [← HE.out, ← HQ.out, ← HP.out]
        rfl
      case measure => omega
    · obtain rfl : i = n / 8 + 1 := by omega
      obtain ⟨s1, hs1⟩ : ∃ s1, tk (eat bs (bgn x y) (n / 8)) (lastW bs) = s1 := ⟨_, rfl⟩
      have he : (⟨v0, v1, v2, v3⟩ : V) = s1 := by
        have h1 := HE.out
        have h2 := eatJ_all bs (bgn x y)
        rw [HH.out.1] at h2
        rw [h1, h2, hs1]
      have HS1 := Lib.hid hs1
      clear hs1
      obtain ⟨a, b, c9, d⟩ := s1
      injection he with e1 e2 e3 e4
      subst e1 e2 e3 e4
      go_wp2_with fail
      go_loopg [5, 6, 7, 8, 11] 4 (fun gk s5 s6 s7 s8 s11 wr => ∃ (i : Nat) (u0 u1 u2 u3 : Int), s5 = .int .u64 u0 ∧ s6 = .int .u64 u1 ∧ s7 = .int .u64 u2 ∧ s8 = .int .u64 u3 ∧ s11 = .int .i64 i ∧ i + gk = 4 ∧ Hid ((⟨u0, u1, u2, u3⟩ : V) = itr i ⟨v0, v1, xr v2 255, v3⟩) ∧ Hid (Below w.heap.size w wr))
      case atStart => exact ⟨0, _, _, _, _, rfl, rfl, rfl, rfl, rfl, by omega, rfl, HI.out.1⟩
      case round =>
        obtain ⟨i, u0, u1, u2, u3, rfl, rfl, rfl, rfl, rfl, hik, HF, HJ⟩ := hrel
        by_cases hlt : i < 4
        · have e0 : True := trivial
          go_wp2_with fail
          refine (round_val u0 u1 u2 u3 _).mono ?_; rintro e w2 ⟨rfl, rfl⟩
          obtain ⟨p, hp⟩ : ∃ p, rnd ⟨u0, u1, u2, u3⟩ = p := ⟨_, rfl⟩
          rw [hp]
          have HP := Lib.hid hp
          clear hp
          go_wp2
          go_roundg (gk - 1)
          case rel =>
            refine ⟨i + 1, _, _, _, _, rfl, rfl, rfl, rfl, by go_num, by omega, ?_, HJ.out⟩
            unfold Hid
            show p = rnd (itr i ⟨v0, v1, xr v2 255, v3⟩)
            rw [← HF.out, HP.out]
          case measure => omega
        · obtain rfl : i = 4 := by omega
          go_wp2_with fail
          go_ret
          refine ⟨ret_int ?_, HJ.out⟩
          unfold sumI
          rw [HH.out.1, HS1.out]
          unfold fin
          rw [← HF.out]
          rfl
end Go.Proofs.Ytgpdenhgbipopaa
