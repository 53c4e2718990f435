/-
  The walk of keyed.Sum. No condition beyond at most 3,000 bytes.
-/
import Derived.Test.YtgpdenhgbipopaaWords
namespace Go.Proofs.Ytgpdenhgbipopaa
open Go.ChangeShapes Go.WideShapes Go.ChangeAt Go.RowKit
set_option linter.unusedVariables false

/-- The so many-th word of bytes. -/
def wI (bs : List Int) (i : Nat) : Int := wd ((bs.drop (8 * i)).take 8)
def eat (bs : List Int) (s : V) : Nat → V
  | 0 => s
  | i + 1 => tk (eat bs s i) (wI bs i)
def lastW (bs : List Int) : Int := wI bs (bs.length / 8) + ((bs.length % 256 : Nat) : Int) * 72057594037927936
def fin (s : V) : V := itr 4 ⟨s.a, s.b, xr s.c 255, s.d⟩
def sumI (x y : Int) (bs : List Int) : Int :=
  xr (xr (xr (fin (tk (eat bs (bgn x y) (bs.length / 8)) (lastW bs))).a (fin (tk (eat bs (bgn x y) (bs.length / 8)) (lastW bs))).b) (fin (tk (eat bs (bgn x y) (bs.length / 8)) (lastW bs))).c) (fin (tk (eat bs (bgn x y) (bs.length / 8)) (lastW bs))).d

theorem or_long (a : Int) (n : Nat) (ha : 0 ≤ a) (ha2 : a < 72057594037927936) : bits .or .u64 a (IntKind.u64.wrap ((n : Int) * 72057594037927936)) = a + ((n % 256 : Nat) : Int) * 72057594037927936 := by
  have e : IntKind.u64.wrap ((n : Int) * 72057594037927936) = ((n % 256 * 72057594037927936 : Nat) : Int) := by
    rw [IntKind.wrap_u64]; omega
  obtain ⟨x, rfl⟩ := Int.eq_ofNat_of_zero_le ha
  rw [e, u64_or_nat x _ (by omega) (by omega), Nat.or_comm]
  have hj : n % 256 * 72057594037927936 ||| x = n % 256 * 72057594037927936 + x := nat_join 56 _ _ (by omega) (by omega)
  rw [hj]; omega

theorem BRow.cut {w : World} {g o n : Nat} {bs : List Int} (h : BRow w (some ⟨g, o, none⟩) n bs) (hn : 8 ≤ n) : BRow w (some ⟨g, o + 8, none⟩) (n - 8) (bs.drop 8) := by
  refine ⟨by rw [List.length_drop, h.1], fun x hx => h.2.1 x (List.mem_of_mem_drop hx), fun hp => ?_⟩
  obtain ⟨g', o', e, hg, hc⟩ := h.2.2 (by omega)
  injection e with e
  injection e with e1 e2
  subst e1 e2
  refine ⟨g, o + 8, rfl, hg, fun i hi => ?_⟩
  have := hc (8 + i) (by omega)
  rw [← Nat.add_assoc] at this
  rw [this, List.getD_eq_getElem?_getD, List.getD_eq_getElem?_getD, List.getElem?_drop]
theorem BRow.none_ (w : World) (A : Option Addr) : BRow w A 0 [] := ⟨rfl, fun x hx => by simp at hx, fun h => absurd h (by omega)⟩

theorem sum_any (x y : Int) (A : Option Addr) (n c : Nat) (bs : List Int) (w : World) (h : BRow w A n bs) (hn : n ≤ 3000) (hc : n ≤ c) :
    Calls Try.prog 21 #[.agg #[.int .u64 x, .int .u64 y], .slice A n c] w fun e w' => e = .returned (.int .u64 (sumI x y bs)) ∧ Below w.heap.size w w' := by
  have HH := Lib.hid h
  clear h
  go_enter Try.func21, Try.ntmps21
  go_wp2_with fail
  refine (begin_any _ _ _).mono ?_; rintro e w1 ⟨rfl, hB⟩
  unfold vs
  obtain ⟨s0, hs0⟩ : ∃ s, bgn x y = s := ⟨_, rfl⟩
  rw [hs0]
  have HS0 := Lib.hid hs0
  have HB1 : Hid (Below w.heap.size w w1) := ((Below.refl _ _).alloc (Nat.le_refl _) _).trans (hB.mono (by simp))
  clear hs0 hB
  go_wp2_with fail
  go_loopg [1] (n / 8) (fun gk s1 wr => ∃ (k m c' : Nat) (A' : Option Addr), s1 = .slice A' m c' ∧ m ≤ c' ∧ m + 8 * k = n ∧ gk = m / 8 ∧ Hid (BRow w A' m (bs.drop (8 * k)) ∧ Below w.heap.size w wr ∧ Blk wr w1.heap.size 49 (vs (eat bs s0 k))))
  case atStart => exact ⟨0, n, c, A, rfl, hc, by omega, rfl, HH.out, HB1.out.alloc HB1.out.size _, Blk.new _ _ _⟩
  case round =>
    obtain ⟨k, m, c', A', rfl, hmc, hmn, rfl, HI⟩ := hrel
    have hg1 := HB1.out.size
    by_cases h8 : 8 ≤ m
    · obtain ⟨g, o, rfl, hg, _⟩ := HI.out.1.2.2 (by omega)
      have hwI : wd ((bs.drop (8 * k)).take 8) = wI bs k := rfl
      have HW := Lib.hid hwI
      clear hwI
      by_cases h9 : c' = 8
      · obtain rfl : m = 8 := by omega
        subst h9
        go_wp2_with fail
        refine (word_any _ 8 _ _ _ ((HI.out.1.later HI.out.2.1).head (Nat.le_refl _)) (by omega)).mono ?_; rintro e w' ⟨rfl, rfl⟩
        go_wp2_with fail
        refine (take_any _ (eat bs s0 k) _ _ HI.out.2.2).mono ?_; rintro e w2 ⟨rfl, hl⟩
        have HL := Lib.hid hl
        clear hl
        go_wp2
        go_roundg 0
        case rel =>
          refine ⟨k + 1, 0, _, _, rfl, by omega, by omega, rfl, ?_, below_chg HI.out.2.1 HL.out.2 HI.out.2.1.size (fun j hj => by omega), HL.out.1⟩
          have hl := HI.out.1.1
          rw [List.length_drop] at hl
          rw [List.drop_eq_nil_of_le (by omega)]
          exact BRow.none_ _ _
        case measure => omega
      · go_wp2_with fail
        refine (word_any _ 8 _ _ _ ((HI.out.1.later HI.out.2.1).head h8) (by omega)).mono ?_; rintro e w' ⟨rfl, rfl⟩
        go_wp2_with fail
        refine (take_any _ (eat bs s0 k) _ _ HI.out.2.2).mono ?_; rintro e w2 ⟨rfl, hl⟩
        have HL := Lib.hid hl
        clear hl
        go_wp2
        go_roundg ((m - 8) / 8)
        case rel =>
          refine ⟨k + 1, m - 8, _, _, rfl, by omega, by omega, rfl, ?_, below_chg HI.out.2.1 HL.out.2 HI.out.2.1.size (fun j hj => by omega), HL.out.1⟩
          have := HI.out.1.cut h8
          rwa [List.drop_drop, show 8 * k + 8 = 8 * (k + 1) by omega] at this
        case measure => omega
    · obtain rfl : k = n / 8 := by omega
      have hbl := HH.out.1
      have hrl := HI.out.1.1
      have hrb := HI.out.1.2.1
      obtain ⟨z, hz⟩ : ∃ z, wd (bs.drop (8 * (n / 8))) = z := ⟨_, rfl⟩
      have hz0 : 0 ≤ z := hz ▸ wd_nonneg hrb
      have hz1 : z < 72057594037927936 := by
        have h1 := wd_lt hrb
        rw [hz, hrl] at h1
        have h2 : (256 : Int) ^ m ≤ 256 ^ 7 := by
          rcases (show m = 0 ∨ m = 1 ∨ m = 2 ∨ m = 3 ∨ m = 4 ∨ m = 5 ∨ m = 6 ∨ m = 7 by omega) with rfl | rfl | rfl | rfl | rfl | rfl | rfl | rfl <;> decide
        have h3 : (256 : Int) ^ 7 = 72057594037927936 := by decide
        omega
      have HLW : Hid (bits .or .u64 z (IntKind.u64.wrap ((n : Int) * 72057594037927936)) = lastW bs) := by
        unfold Hid
        rw [or_long z n hz0 hz1]
        unfold lastW wI
        rw [hbl, List.take_of_length_le (by rw [hrl]; omega), hz]
      have HZ := Lib.hid hz
      clear hz hz0 hz1 hbl hrl hrb
      go_wp2_with fail
      refine (word_any _ m _ _ _ (HI.out.1.later HI.out.2.1) (by omega)).mono ?_
      rw [HZ.out]
      rintro e w' ⟨rfl, rfl⟩
      go_wp2_with fail
      rw [HLW.out]
      refine (take_any _ (eat bs s0 (n / 8)) _ _ HI.out.2.2).mono ?_; rintro e w2 ⟨rfl, hl⟩
      obtain ⟨s1, hs1⟩ : ∃ s1, tk (eat bs s0 (n / 8)) (lastW bs) = s1 := ⟨_, rfl⟩
      rw [hs1] at hl
      have HL := Lib.hid hl
      have HS1 := Lib.hid hs1
      have c2 : w2.cell? ⟨w1.heap.size, 2, none⟩ = some (.int .u64 s1.c) := hl.1.cell 2
      have f2 := hl.1.free 2
      clear hl hs1
      go_wp2_with fail
      refine (rounds4 _ ⟨s1.a, s1.b, xr s1.c 255, s1.d⟩ _ (HL.out.1.put 2 _ rfl)).mono ?_; rintro e w3 ⟨rfl, hl⟩
      have HL3 := Lib.hid hl
      have HF : Hid (itr 4 ⟨s1.a, s1.b, xr s1.c 255, s1.d⟩ = fin s1) := rfl
      rw [HF.out] at hl
      have d0 : w3.cell? ⟨w1.heap.size, 0, none⟩ = some (.int .u64 (fin s1).a) := hl.1.cell 0
      have d1 : w3.cell? ⟨w1.heap.size, 1, none⟩ = some (.int .u64 (fin s1).b) := hl.1.cell 1
      have d2 : w3.cell? ⟨w1.heap.size, 2, none⟩ = some (.int .u64 (fin s1).c) := hl.1.cell 2
      have d3 : w3.cell? ⟨w1.heap.size, 3, none⟩ = some (.int .u64 (fin s1).d) := hl.1.cell 3
      clear hl c2 f2
      go_wp2_with fail
      go_ret
      refine ⟨ret_int ?_, ?_⟩
      · unfold sumI
        rw [HH.out.1, HS0.out, HS1.out]
        rfl
      · have b1 := below_chg HI.out.2.1 HL.out.2 HI.out.2.1.size (fun j hj => by omega)
        have b2 := b1.setCell (p := ⟨w1.heap.size, 2, none⟩) hg1 (.int .u64 (xr s1.c 255))
        exact below_chg b2 HL3.out.2 (by have := b2.size; omega) (fun j hj => by omega)
end Go.Proofs.Ytgpdenhgbipopaa
