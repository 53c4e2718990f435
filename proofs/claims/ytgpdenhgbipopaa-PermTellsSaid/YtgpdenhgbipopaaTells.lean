/-
  The walk of PermTells. No condition.
-/
import Derived.Test.YtgpdenhgbipopaaRefOf
import Derived.Test.YtgpdenhgbipopaaEach
namespace Go.Proofs.Ytgpdenhgbipopaa
open Go.ChangeShapes Go.WideShapes Go.ChangeAt Go.RowKit
set_option linter.unusedVariables false
set_option linter.unusedSimpArgs false

theorem key_cells {w : World} {g t : Nat} {x y : Int} (h : Blk w g t #[.int .u64 x, .int .u64 y]) : w.cell? ⟨g, 0, none⟩ = some (.int .u64 x) ∧ w.cell? ⟨g, 1, none⟩ = some (.int .u64 y) := ⟨h.cell 0, h.cell 1⟩
theorem tells_out (x y a m : Int) (w : World) (h : mayI m = false) : Calls Try.prog 3 #[.agg #[.int .u64 x, .int .u64 y], .int .i64 a, .int .i64 m] w fun e w' => e = .returned (.bool true) ∧ Below w.heap.size w w' := by
  have HM := Lib.hid h
  have HB0 : Hid (Below w.heap.size w (w.alloc (.cells #[.int .u64 x, .int .u64 y] 24))) := (Below.refl _ _).alloc (Nat.le_refl _) _
  have K0 : Hid (Blk (w.alloc (.cells #[.int .u64 x, .int .u64 y] 24)) w.heap.size 24 #[.int .u64 x, .int .u64 y]) := Blk.new _ _ _
  clear h
  go_enter Try.func3, Try.ntmps3
  go_wp2_with fail
  refine (refOf_out x y a m _ HM.out).mono ?_; rintro e w1 ⟨rfl, h1⟩
  have K1 := Lib.hid (K0.out.below h1 K0.out.lt)
  have H1 := Lib.hid (HB0.out.trans (h1.mono HB0.out.size))
  obtain ⟨c0, c1⟩ := key_cells K1.out
  clear h1
  go_wp2_with fail
  refine (of_not x y a m _ HM.out).mono ?_; rintro e w2 ⟨rfl, h1⟩
  have K2 := Lib.hid (K1.out.below h1 K1.out.lt)
  have H2 := Lib.hid (H1.out.trans (h1.mono H1.out.size))
  clear h1 c0 c1
  obtain ⟨c0, c1⟩ := key_cells K2.out
  go_wp2_with fail
  refine wp_loop_rounds 1 ?_; rw [rounds_succ]
  go_wp2_with fail
  refine (offset_any x y a m _).mono ?_; rintro e w3 ⟨rfl, h1⟩
  rw [HM.out, if_neg (by decide)]
  have K3 := Lib.hid (K2.out.below h1 K2.out.lt)
  have H3 := Lib.hid (H2.out.trans (h1.mono H2.out.size))
  clear h1 c0 c1
  obtain ⟨c0, c1⟩ := key_cells K3.out
  go_wp2_with fail
  refine (skip_any x y a m _).mono ?_; rintro e w4 ⟨rfl, h1⟩
  rw [HM.out, if_neg (by decide)]
  have H4 := Lib.hid (H3.out.trans (h1.mono H3.out.size))
  clear h1 c0 c1
  go_wp2_with fail
  refine (lives_any _).mono ?_; rintro e w5 ⟨rfl, h1⟩
  have H5 := Lib.hid (H4.out.trans (h1.mono H4.out.size))
  clear h1
  go_wp2
  go_ret
  exact ⟨rfl, H5.out⟩

theorem slots_at (o k : Int) (m i : Nat) (h : i < m) : (slots o k m m).getD i 0 = slotI o k m i := by
  simp [slots, h]
def ZS (B gl : Nat) (x y z0 z1 : Int) (W : World) : Prop := W.cell? ⟨B, 0, none⟩ = some (.int .u64 x) ∧ W.cell? ⟨B, 1, none⟩ = some (.int .u64 y) ∧ W.cell? ⟨gl, 0, none⟩ = some (.int .i64 z0) ∧ W.cell? ⟨gl, 1, none⟩ = some (.int .i64 z1)
theorem ZS.later {B gl : Nat} {x y z0 z1 : Int} {W v : World} (h : ZS B gl x y z0 z1 W) (hb : Below W.heap.size W v) : ZS B gl x y z0 z1 v := by
  have f : ∀ {a : Addr} {x : Value}, W.cell? a = some x → v.cell? a = some x := fun {a x} e => (hb.cell (block_lt_of_cell e)).trans e
  exact ⟨f h.1, f h.2.1, f h.2.2.1, f h.2.2.2⟩
set_option maxRecDepth 100000 in
set_option maxHeartbeats 3200000 in
theorem tells_in (x y a : Int) (m : Nat) (w : World) (hm : 2 ≤ m ∧ m ≤ 1000) : Calls Try.prog 3 #[.agg #[.int .u64 x, .int .u64 y], .int .i64 a, .int .i64 m] w fun e w' => e = .returned (.bool true) ∧ Below w.heap.size w w' := by
  have hmay : mayI m = true := by simp [mayI]; omega
  have HB0 : Hid (Below w.heap.size w (w.alloc (.cells #[.int .u64 x, .int .u64 y] 24))) := (Below.refl _ _).alloc (Nat.le_refl _) _
  have K0 : Hid (Blk (w.alloc (.cells #[.int .u64 x, .int .u64 y] 24)) w.heap.size 24 #[.int .u64 x, .int .u64 y]) := Blk.new _ _ _
  have ho := off_rng (x := x) (y := y) (a := a) (m := m) (by omega)
  have hk := skip_rng (x := x) (y := y) (a := a) (m := m) (by omega)
  have HO := Lib.hid (fun W => offset_any x y a m W)
  have HS := Lib.hid (fun W => skip_any x y a m W)
  have HR := Lib.hid (fun W => refOf_in x y a m W hm)
  have HL := Lib.hid (fun W => of_any x y a m W hm)
  rw [hmay] at HO HS
  simp only [if_true] at HO HS
  generalize offI x y a m = o at *
  generalize skipI x y a m = k at *
  clear hmay
  go_enter Try.func3, Try.ntmps3
  go_wp2_with fail
  refine (HR.out _).mono ?_; rintro e w1 ⟨vr, rfl, hr, h1⟩
  have K1 := Lib.hid (K0.out.below h1 K0.out.lt)
  have H1 := Lib.hid (HB0.out.trans (h1.mono HB0.out.size))
  obtain ⟨c0, c1⟩ := key_cells K1.out
  have HRR := Lib.hid hr
  clear h1 hr
  go_wp2_with fail
  refine (HL.out _).mono ?_; rintro e w2 ⟨vl, rfl, hl, h1⟩
  have K2 := Lib.hid (K1.out.below h1 K1.out.lt)
  have H2 := Lib.hid (H1.out.trans (h1.mono H1.out.size))
  have hr2 := HRR.out.later h1
  unfold OwnZ at hr2
  rw [slots_len] at hr2
  rcases hr2.2 with ⟨_, h0⟩ | ⟨gr, cr, cur, rfl, _, hh, _⟩
  · omega
  have hgr : gr < w2.heap.size := lt_of_block hh
  rcases hl.2 with ⟨_, h0⟩ | ⟨gl, cl, cur2, rfl, _, hh2, _⟩
  · omega
  have hgl : gl < w2.heap.size := lt_of_block hh2
  have XL : Hid (∀ i, i < m → w2.cell? ⟨gl, i, none⟩ = some (.int .i64 (slotI o k m i))) := fun i hi => (hl.cellAt i (by omega)).trans (izs_at o k m i hi)
  have XR : Hid (∀ i, i < m → w2.cell? ⟨gr, i, none⟩ = some (.int .i64 (slotI o k m i))) := fun i hi => (hr2.cellAt i (by omega)).trans (izs_at o k m i hi)
  clear h1 c0 c1 hr2 hl hh hh2 HRR
  go_wp2_with fail
  go_loopg [9] (m + 1) (fun gk s9 wr => ∃ i : Nat, s9 = .int .i64 i ∧ gk + i = m + 1 ∧ i ≤ m ∧ Hid (Below w2.heap.size w2 wr))
  case atStart => exact ⟨0, rfl, by omega, by omega, Below.refl _ _⟩
  case round =>
    obtain ⟨i, rfl, hgi, him, HI⟩ := hrel
    by_cases hlt : i < m
    · have x1 := (HI.out.cell (p := ⟨gl, i, none⟩) hgl).trans (XL.out i hlt)
      have x2 := (HI.out.cell (p := ⟨gr, i, none⟩) hgr).trans (XR.out i hlt)
      generalize slotI o k m i = z at *
      have b1 : (0 : Int) ≤ (i : Int) := by omega
      have b2 : (i : Int) < (m : Int) := by omega
      go_wp2_with fail
      go_region
      all_goals
        go_wp2_with fail
        go_roundg (gk - 1)
        case rel => exact ⟨i + 1, by go_num, by omega, by omega, HI.out.drew⟩
        case measure => omega
    · obtain rfl : i = m := by omega
      go_upto_region 12 with fail
      have K3 := Lib.hid (K2.out.below HI.out K2.out.lt)
      have H3 := Lib.hid (H2.out.trans (HI.out.mono H2.out.size))
      have z0 : slotI o k i 0 = o := by unfold slotI; rw [show o + ((0 : Nat) : Int) * k = o by omega, Int.emod_eq_of_lt ho.1 ho.2]
      have z1 : slotI o k i 1 = (o + k) % (i : Int) := by unfold slotI; rw [show o + ((1 : Nat) : Int) * k = o + k by omega]
      have y0 := (HI.out.cell (p := ⟨gl, 0, none⟩) hgl).trans (XL.out 0 (by omega))
      have y1 := (HI.out.cell (p := ⟨gl, 1, none⟩) hgl).trans (XL.out 1 (by omega))
      rw [z0] at y0
      rw [z1] at y1
      obtain ⟨zz, hzz⟩ : ∃ zz, (o + k) % (i : Int) = zz := ⟨_, rfl⟩
      rw [hzz] at y1
      clear z0 z1
      obtain ⟨c0, c1⟩ := key_cells K3.out
      have S0 : Hid (ZS w.heap.size gl x y o zz wr) := ⟨c0, c1, y0, y1⟩
      have e1 : (o == o) = true := by simp
      have e2 : (zz == zz) = true := by simp
      have e3 : decide (1 ≤ k) = true := by simp; omega
      have e4 : decide (k < (i : Int)) = true := by simp; omega
      have e5 : (0 : Int) < (i : Int) := by omega
      have e6 : (1 : Int) < (i : Int) := by omega
      have e5n : 0 < i := by omega
      have e6n : 1 < i := by omega
      have e0n : ¬ i = 0 := by omega
      have e0i : ((i : Int) == 0) = false := by simp; omega
      have e7 : wrap64 (o + k) = o + k := IntWalk.wrap64_in _ (by omega)
      have e8 : IntKind.i64.wrap (o + k) = o + k := IntWalk.i64_in _ (by omega)
      have e9 : (o + k).tmod (i : Int) = zz := by rw [Int.tmod_eq_emod_of_nonneg (by omega), hzz]
      have e10 : (o + k) % (i : Int) = zz := hzz
      have hz1 := Int.emod_nonneg (o + k) (show (i : Int) ≠ 0 by omega)
      have hz2 := Int.emod_lt_of_pos (o + k) (show (0 : Int) < i by omega)
      rw [hzz] at hz1 hz2
      have e11 : wrap64 zz = zz := IntWalk.wrap64_in _ (by omega)
      have e12 : IntKind.i64.wrap zz = zz := IntWalk.i64_in _ (by omega)
      clear hzz hz1 hz2
      go_region_held3 (fun W => W.cell? ⟨w.heap.size, 0, none⟩ = some (.int .u64 x) ∧ W.cell? ⟨w.heap.size, 1, none⟩ = some (.int .u64 y) ∧ W.cell? ⟨gl, 0, none⟩ = some (.int .i64 o) ∧ W.cell? ⟨gl, 1, none⟩ = some (.int .i64 zz)) (first | exact S8.out | exact S7.out | exact S6.out | exact S5.out | exact S4.out | exact S0.out)
        (first
          | (go_at_call 8; refine Calls.mono (HO.out wr.drew) ?_; rintro e w4 ⟨rfl, h1⟩; have S4 : Hid (ZS w.heap.size gl x y o zz w4) := ZS.later (W := wr.drew) S0.out h1; have H4 : Hid (Below w.heap.size w w4) := H3.out.drew.trans (h1.mono H3.out.size); clear h1)
          | (go_at_call 9; (fail_if_success (have h9 := S5)); refine Calls.mono (HS.out w4) ?_; rintro e w5 ⟨rfl, h1⟩; have S5 : Hid (ZS w.heap.size gl x y o zz w5) := S4.out.later h1; have H5 : Hid (Below w.heap.size w w5) := H4.out.trans (h1.mono H4.out.size); clear h1)
          | (go_at_call 9; (fail_if_success (have h9 := S6)); refine Calls.mono (HS.out w5) ?_; rintro e w6 ⟨rfl, h1⟩; have S6 : Hid (ZS w.heap.size gl x y o zz w6) := S5.out.later h1; have H6 : Hid (Below w.heap.size w w6) := H5.out.trans (h1.mono H5.out.size); clear h1)
          | (go_at_call 9; refine Calls.mono (HS.out w6) ?_; rintro e w7 ⟨rfl, h1⟩; have S7 : Hid (ZS w.heap.size gl x y o zz w7) := S6.out.later h1; have H7 : Hid (Below w.heap.size w w7) := H6.out.trans (h1.mono H6.out.size); clear h1)
          | (go_at_call 10; refine Calls.mono (lives_any w7) ?_; rintro e w8 ⟨rfl, h1⟩; have S8 : Hid (ZS w.heap.size gl x y o zz w8) := S7.out.later h1; have H8 : Hid (Below w.heap.size w w8) := H7.out.trans (h1.mono H7.out.size); clear h1))
      go_wp2
      go_ret
      exact ⟨rfl, H8.out⟩
theorem tells_walk (x y a m : Int) (w : World) : Calls Try.prog 3 #[.agg #[.int .u64 x, .int .u64 y], .int .i64 a, .int .i64 m] w fun e w' => e = .returned (.bool true) ∧ Below w.heap.size w w' := by
  cases h : mayI m with
  | false => exact tells_out x y a m w h
  | true =>
    have h2 : 2 ≤ m ∧ m ≤ 1000 := by simpa [mayI] using h
    obtain ⟨n, rfl⟩ := Int.eq_ofNat_of_zero_le (show 0 ≤ m by omega)
    exact tells_in x y a n w (by omega)
end Go.Proofs.Ytgpdenhgbipopaa
