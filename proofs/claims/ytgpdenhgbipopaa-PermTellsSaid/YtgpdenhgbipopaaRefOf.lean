/-
  The walks of the document's At and Of. No condition.
-/
import Derived.Test.YtgpdenhgbipopaaLives
namespace Go.Proofs.Ytgpdenhgbipopaa
open Go.ChangeShapes Go.WideShapes Go.ChangeAt Go.RowKit
set_option linter.unusedVariables false
set_option linter.unusedSimpArgs false

theorem at_any (x y a : Int) (m i : Nat) (w : World) (hm : 2 ≤ m ∧ m ≤ 1000) (hi : i < m) : Calls Try.prog 13 #[.agg #[.int .u64 x, .int .u64 y], .int .i64 a, .int .i64 m, .int .i64 i] w fun e w' => e = .returned (.int .i64 (slotI (offI x y a m) (skipI x y a m) m i)) ∧ Below w.heap.size w w' := by
  have HB0 : Hid (Below w.heap.size w (w.alloc (.cells #[.int .u64 x, .int .u64 y] 27))) := (Below.refl _ _).alloc (Nat.le_refl _) _
  have hs1 := sum_range x y (pbytes a 1)
  have hs2 := sum_range x y (pbytes a 2)
  have HP1 := Lib.hid (fun W => refPair_any x y a 1 W)
  have HP2 := Lib.hid (fun W => refPair_any x y a 2 W)
  have ho := off_rng (x := x) (y := y) (a := a) (m := m) (by omega)
  have hk := skip_rng (x := x) (y := y) (a := a) (m := m) (by omega)
  have e1 : Hid (sumI x y (pbytes a 1) % m = offI x y a m) := rfl
  have e2 : Hid (sumI x y (pbytes a 2) % ((m : Int) - 1) + 1 = skipI x y a m) := rfl
  generalize sumI x y (pbytes a 1) = u at *
  generalize sumI x y (pbytes a 2) = v at *
  generalize offI x y a m = o at *
  generalize skipI x y a m = k at *
  have hx0 : Blk (w.alloc (.cells #[.int .u64 x, .int .u64 y] 27)) w.heap.size 27 #[.int .u64 x, .int .u64 y] := Blk.new _ _ _
  have HX := Lib.hid hx0
  clear hx0
  have ew1 : wrap64 (u % (m : Int)) = o := by rw [e1.out]; exact IntWalk.wrap64_in _ (by omega)
  have ew2 : wrap64 (v % ((m : Int) - 1)) = k - 1 := by
    have : v % ((m : Int) - 1) = k - 1 := by have := e2.out; omega
    rw [this]; exact IntWalk.wrap64_in _ (by omega)
  have hq1 : 0 ≤ (i : Int) * k := Int.mul_nonneg (by omega) (by omega)
  have hq2 : (i : Int) * k ≤ 1000 * 1000 := Int.mul_le_mul (by omega) (by omega) (by omega) (by omega)
  obtain ⟨q, hq⟩ : ∃ q, (i : Int) * k = q := ⟨_, rfl⟩
  rw [hq] at hq1 hq2
  have HQ := Lib.hid hq
  go_enter Try.func13, Try.ntmps13
  go_wp2_with fail
  refine (HP1.out _).mono ?_; rintro e w1 ⟨rfl, h1⟩
  have b1 := HX.out.below h1 HX.out.lt
  have c0 : w1.cell? ⟨w.heap.size, 0, none⟩ = some (.int .u64 x) := b1.cell 0
  have c1 : w1.cell? ⟨w.heap.size, 1, none⟩ = some (.int .u64 y) := b1.cell 1
  have H1 := Lib.hid h1
  clear h1 b1
  go_wp2_with fail
  refine (HP2.out _).mono ?_; rintro e w2 ⟨rfl, h2⟩
  have H2 := Lib.hid h2
  clear h2
  go_wp2_with fail
  go_ret
  refine ⟨?_, (HB0.out.trans (H1.out.mono HB0.out.size)).trans (H2.out.mono (HB0.out.trans (H1.out.mono HB0.out.size)).size)⟩
  refine ret_int ?_
  unfold slotI
  rw [HQ.out]
/-- The numbers of the row. -/
theorem refOf_out (x y a m : Int) (w : World) (h : mayI m = false) : Calls Try.prog 6 #[.agg #[.int .u64 x, .int .u64 y], .int .i64 a, .int .i64 m] w fun e w' => e = .returned (.slice none 0 0) ∧ Below w.heap.size w w' := by
  have HB0 : Hid (Below w.heap.size w (w.alloc (.cells #[.int .u64 x, .int .u64 y] 27))) := (Below.refl _ _).alloc (Nat.le_refl _) _
  have h2 : ¬ (2 ≤ m ∧ m ≤ 1000) := by simpa [mayI] using h
  clear h
  by_cases h0 : 0 < m
  · by_cases h3 : 2 ≤ m
    · have t1 : decide (0 < m) = true := by simpa using h0
      have t2 : decide (2 ≤ m) = true := by simpa using h3
      have t3 : decide (m ≤ 1000) = false := by simp; omega
      go_enter Try.func6, Try.ntmps6
      go_wp2_with fail
      refine wp_loop_rounds 1 ?_; rw [rounds_succ]
      go_wp2
      go_ret
      exact ⟨rfl, HB0.out⟩
    · have t1 : decide (0 < m) = true := by simpa using h0
      have t2 : decide (2 ≤ m) = false := by simpa using h3
      go_enter Try.func6, Try.ntmps6
      go_wp2_with fail
      refine wp_loop_rounds 1 ?_; rw [rounds_succ]
      go_wp2
      go_ret
      exact ⟨rfl, HB0.out⟩
  · have t1 : decide (0 < m) = false := by simpa using h0
    go_enter Try.func6, Try.ntmps6
    go_wp2_with fail
    refine wp_loop_rounds 1 ?_; rw [rounds_succ]
    go_wp2
    go_ret
    exact ⟨rfl, HB0.out⟩
def OwnZ (w : World) (B : Nat) (v : Value) (zs : List Int) : Prop := w.ownsRow B 3 1 v zs.length (izs zs)
theorem OwnZ.later {w v : World} {B : Nat} {x : Value} {zs : List Int} (h : OwnZ w B x zs) (hb : Below w.heap.size w v) : OwnZ v B x zs :=
  ⟨h.1, h.2.imp id fun ⟨g, cap, cur, h1, h2, h3, h4⟩ => ⟨g, cap, cur, h1, h2, (hb.block g (lt_of_block h3)).trans h3, h4⟩⟩
theorem stepZ {w wr w1 : World} {B m : Nat} {v v' : Value} {zs ys : List Int} (h : OwnZ wr B v zs) (hb : Below B w wr) (hB : B ≤ wr.heap.size) (hm : ys.length = m)
    (h' : w1.ownsRow B 3 1 v' (zs.length + m) (izs zs ++ izs ys)) (hg : wr.grownBy w1 v.ownBlock) : OwnZ w1 B v' (zs ++ ys) ∧ Below B w w1 := by
  refine ⟨?_, hb.grown hg hB (fun k hk => (h.lt k hk).1)⟩
  unfold OwnZ izs
  rw [List.length_append, List.map_append, hm]
  exact h'
set_option maxHeartbeats 1600000 in
theorem refOf_in (x y a : Int) (m : Nat) (w : World) (hm : 2 ≤ m ∧ m ≤ 1000) : Calls Try.prog 6 #[.agg #[.int .u64 x, .int .u64 y], .int .i64 a, .int .i64 m] w fun e w' => ∃ v, e = .returned v ∧ OwnZ w' w.heap.size v (slots (offI x y a m) (skipI x y a m) m m) ∧ Below w.heap.size w w' := by
  have HA := Lib.hid (fun i (hi : i < m) W => at_any x y a m i W hm hi)
  generalize offI x y a m = o at *
  generalize skipI x y a m = k at *
  have t2 : decide ((2 : Int) ≤ (m : Int)) = true := by simp; omega
  have t3 : decide ((m : Int) ≤ 1000) = true := by simp; omega
  obtain ⟨i0, hi, hz0, hz1, hz2⟩ := info_parts info3
  have HZ := Lib.hid (And.intro hi (And.intro hz0 (And.intro hz1 hz2)))
  have HB0 : Hid (Below w.heap.size w (w.alloc (.cells #[.int .u64 x, .int .u64 y] 27))) := (Below.refl _ _).alloc (Nat.le_refl _) _
  have HX : Hid (Blk (w.alloc (.cells #[.int .u64 x, .int .u64 y] 27)) w.heap.size 27 #[.int .u64 x, .int .u64 y]) := Blk.new _ _ _
  clear hi hz0 hz1 hz2
  go_enter Try.func6, Try.ntmps6
  go_wp2_with fail
  go_loopg [7, 8] (m + 1) (fun gk s7 s8 wr => ∃ (i c' : Nat) (A' : Option Addr), s7 = .slice A' i c' ∧ s8 = .int .i64 i ∧ gk + i = m + 1 ∧ i ≤ m ∧ Hid (Below w.heap.size w wr ∧ OwnZ wr (w.heap.size + 1) (.slice A' i c') (slots o k m i) ∧ Blk wr w.heap.size 27 #[.int .u64 x, .int .u64 y] ∧ w.heap.size + 1 ≤ wr.heap.size))
  case atStart => exact ⟨0, 0, none, rfl, rfl, by omega, by omega, HB0.out, World.ownsRow_nil _ _ _ _, HX.out, by simp⟩
  case round =>
    obtain ⟨i, c', A', rfl, rfl, hgi, hin, HI⟩ := hrel
    by_cases hlt : i < m
    · have c0 : wr.cell? ⟨w.heap.size, 0, none⟩ = some (.int .u64 x) := HI.out.2.2.1.cell 0
      have c1 : wr.cell? ⟨w.heap.size, 1, none⟩ = some (.int .u64 y) := HI.out.2.2.1.cell 1
      obtain ⟨z, hz⟩ : ∃ z, slotI o k m i = z := ⟨_, rfl⟩
      have HZZ := Lib.hid hz
      go_wp2_with fail
      refine (HA.out i hlt _).mono ?_; rintro e w1 ⟨rfl, h1⟩
      rw [hz]
      have O1 := Lib.hid (HI.out.2.1.later h1)
      have X1 := Lib.hid (HI.out.2.2.1.below h1 HI.out.2.2.1.lt)
      have B1 := Lib.hid (HI.out.1.trans (h1.mono HI.out.1.size))
      have hsz := Nat.le_trans HI.out.2.2.2 h1.size
      clear h1 c0 c1 hz
      go_wp2_with (at_builtin; refine wpList_append_own _ rfl _ _ 25 rfl (w.heap.size + 1) 3 i0 _ 1 8 Try.underlying25 HZ.out.1 HZ.out.2.1 HZ.out.2.2.1 HZ.out.2.2.2 rfl (by decide) _ i (izs (slots o k m i)) rfl (World.ownsRow.alloc (by have := O1.out; unfold OwnZ at this; rw [slots_len] at this; exact this) _) ⟨w1.heap.size, 0, none⟩ 1 1 [.int .i64 z] rfl rfl ?c1 ?c2 ?c3 ?c4 ?c5 ?_)
      case c1 => exact cell1 (heap_alloc_new w1 _)
      case c2 => intro u hu; simp at hu; subst hu; rfl
      case c3 => unfold maxLen; omega
      case c4 => omega
      case c5 => simp; omega
      intro v' w2 hown hgrow _
      have Q := stepZ (zs := slots o k m i) (ys := [z]) (w := w1) (B := w.heap.size + 1) (World.ownsRow.alloc O1.out _) ((Below.refl _ _).alloc hsz _) (by simp; omega) rfl (by rw [slots_len]; exact hown) hgrow
      rw [← HZZ.out, ← slots_snoc] at Q
      obtain ⟨A2, c2, hv⟩ := row_form Q.1
      rw [slots_len] at hv
      have HQ := Lib.hid Q
      rw [hv]
      have HV := Lib.hid hv
      clear Q hown hgrow hv
      go_wp2
      go_roundg (gk - 1)
      case rel => exact ⟨i + 1, c2, A2, rfl, by go_num, by omega, by omega, B1.out.trans (HQ.out.2.mono (by omega)), HV.out ▸ HQ.out.1, X1.out.below HQ.out.2 (by omega), Nat.le_trans hsz HQ.out.2.size⟩
      case measure => omega
    · obtain rfl : i = m := by omega
      go_wp2
      go_ret
      exact ⟨_, rfl, row_base HI.out.2.1 (by omega), HI.out.1⟩
end Go.Proofs.Ytgpdenhgbipopaa
