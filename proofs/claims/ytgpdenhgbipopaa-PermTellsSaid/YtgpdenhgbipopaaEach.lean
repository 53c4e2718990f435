/-
  The plain law that the slots of a prime table are all different, and the walk of PermEach. No condition.
-/
import Derived.Test.YtgpdenhgbipopaaLives
import Derived.Laws.MakeOwn
namespace Go.Proofs.Ytgpdenhgbipopaa
open Go.ChangeShapes Go.WideShapes Go.ChangeAt Go.RowKit
set_option linter.unusedVariables false
set_option linter.unusedSimpArgs false

theorem pr_mul {m a b : Nat} (hp : Pr m) (ha : 0 < a) (ham : a < m) (hb : 0 < b) (hbm : b < m) : ¬ m ∣ a * b := by
  intro hd
  have hg1 : Nat.gcd m a ∣ m := Nat.gcd_dvd_left m a
  have hg2 : Nat.gcd m a ≤ a := Nat.le_of_dvd ha (Nat.gcd_dvd_right m a)
  have hg0 : 0 < Nat.gcd m a := Nat.gcd_pos_of_pos_right m ha
  rcases Nat.lt_or_ge (Nat.gcd m a) 2 with h | h
  · have hc : Nat.Coprime m a := by show Nat.gcd m a = 1; omega
    have := Nat.le_of_dvd hb (hc.dvd_of_dvd_mul_left hd)
    omega
  · exact pr_hit h (by omega) (Nat.mod_eq_zero_of_dvd hg1) hp
theorem slot_inj {o k : Int} {m i j : Nat} (hp : Pr m) (hk : 1 ≤ k ∧ k < m) (hij : i < j) (hj : j < m) : slotI o k m i ≠ slotI o k m j := by
  intro h
  unfold slotI at h
  have h1 : ((m : Int)) ∣ (o + (j : Int) * k) - (o + (i : Int) * k) := Int.dvd_of_emod_eq_zero (Int.emod_eq_emod_iff_emod_sub_eq_zero.1 h.symm)
  obtain ⟨d, rfl⟩ : ∃ d, j = i + d := ⟨j - i, by omega⟩
  obtain ⟨c, rfl⟩ := Int.eq_ofNat_of_zero_le (show 0 ≤ k by omega)
  have e : (o + ((i + d : Nat) : Int) * (c : Int)) - (o + (i : Int) * (c : Int)) = ((d * c : Nat) : Int) := by
    rw [Int.natCast_add, Int.add_mul, Int.natCast_mul]
    omega
  rw [e] at h1
  exact pr_mul hp (by omega) (by omega) (by omega) (by omega) (Int.natCast_dvd_natCast.1 h1)
/-- Whether a slot has come. -/
def seenB (o k : Int) (m i j : Nat) : Bool := (List.range i).any (fun a => decide (slotI o k m a = (j : Int)))
theorem seen_snoc (o k : Int) (m i j : Nat) : seenB o k m (i + 1) j = (seenB o k m i j || decide (slotI o k m i = (j : Int))) := by simp [seenB, List.range_succ]
theorem seen_new {o k : Int} {m i j : Nat} (hp : Pr m) (hk : 1 ≤ k ∧ k < m) (hi : i < m) (hj : slotI o k m i = (j : Int)) : seenB o k m i j = false := by
  unfold seenB
  rw [List.any_eq_false]
  intro a ha
  rw [List.mem_range] at ha
  simp only [decide_eq_true_eq]
  rw [← hj]
  exact slot_inj hp hk ha hi
theorem izs_at (o k : Int) (m i : Nat) (h : i < m) : (izs (slots o k m m))[i]? = some (.int .i64 (slotI o k m i)) := by
  simp [izs, slots, h]
theorem made_false (m : Nat) (i : Nat) (hi : i < m) : (madeCells (Value.bool false).cells (m * 1))[i]? = some (.bool false) := by
  unfold madeCells
  simp [hi, Value.cells, Nat.mod_one]
theorem info4 : (Try.prog.info? 4).map (fun i => (i.zero, i.size, i.bytes)) = some (some (.bool false), 1, 1) := by kernel_rfl
def SeenIs (w : World) (g : Nat) (o k : Int) (m i : Nat) : Prop := ∃ cs : Array Value, Blk w g 4 cs ∧ cs.size = m ∧ ∀ j, j < m → cs[j]? = some (.bool (seenB o k m i j))
theorem SeenIs.next {w : World} {g : Nat} {o k : Int} {m i s : Nat} (h : SeenIs w g o k m i) (hs : slotI o k m i = (s : Int)) : SeenIs (w.setCell ⟨g, s, none⟩ (.bool true)) g o k m (i + 1) := by
  obtain ⟨cs, hb, hsz, hc⟩ := h
  refine ⟨_, hb.put s _ rfl, by simpa using hsz, fun j hj => ?_⟩
  rw [Array.getElem?_setIfInBounds, seen_snoc, hs]
  by_cases hsj : s = j
  · subst hsj
    rw [if_pos rfl, if_pos (by omega)]
    simp
  · rw [if_neg hsj, hc j hj]
    have : decide ((s : Int) = (j : Int)) = false := by simp; omega
    rw [this, Bool.or_false]

theorem each_lives (x y a m : Int) (w : World) (h : 1000 < m ∨ primeB m = false) : Calls Try.prog 5 #[.agg #[.int .u64 x, .int .u64 y], .int .i64 a, .int .i64 m] w fun e w' => e = .returned (.bool true) ∧ Below w.heap.size w w' := by
  have HB0 : Hid (Below w.heap.size w (w.alloc (.cells #[.int .u64 x, .int .u64 y] 24))) := (Below.refl _ _).alloc (Nat.le_refl _) _
  by_cases h1 : 1000 < m
  · clear h
    go_enter Try.func5, Try.ntmps5
    go_wp2_with (go_at_call 10; refine (lives_any _).mono ?_; rintro e w1 ⟨rfl, h1⟩; have H1 := Lib.hid h1; clear h1)
    go_ret
    exact ⟨rfl, HB0.out.trans (H1.out.mono HB0.out.size)⟩
  · have hp := Lib.hid (show primeB m = false from h.resolve_left h1)
    have t1 : decide (1000 < m) = false := by simpa using h1
    clear h
    go_enter Try.func5, Try.ntmps5
    go_wp2_with (first | (go_at_call 11; refine (prime_any m _).mono ?_; rintro e w' ⟨rfl, rfl⟩; rw [hp.out]) | (go_at_call 10; refine (lives_any _).mono ?_; rintro e w1 ⟨rfl, h1⟩; have H1 := Lib.hid h1; clear h1))
    go_ret
    exact ⟨rfl, HB0.out.trans (H1.out.mono HB0.out.size)⟩

set_option maxHeartbeats 1600000 in
theorem each_prime (x y a : Int) (m : Nat) (w : World) (h1 : 2 ≤ m ∧ m ≤ 1000) (hp : primeB m = true) : Calls Try.prog 5 #[.agg #[.int .u64 x, .int .u64 y], .int .i64 a, .int .i64 m] w fun e w' => e = .returned (.bool true) ∧ Below w.heap.size w w' := by
  have HB0 : Hid (Below w.heap.size w (w.alloc (.cells #[.int .u64 x, .int .u64 y] 24))) := (Below.refl _ _).alloc (Nat.le_refl _) _
  have HPR := Lib.hid (show Pr m from ((primeB_iff m).1 hp).2.2)
  have HP := Lib.hid hp
  have t1 : decide ((1000 : Int) < m) = false := by simp; omega
  obtain ⟨i0, hi, hz0, hz1, hz2⟩ := info_parts info4
  obtain ⟨zs, hzs⟩ : ∃ zs, madeCells (Value.bool false).cells (m * 1) = zs := ⟨_, rfl⟩
  have hmk : ∀ W : World, (Instr.makeSlice 33 (.int .i64 (m : Int)) (.int .i64 (m : Int))).run Try.prog W = .ok (.slice (some ⟨W.heap.size, 0, none⟩) m m) (W.alloc (.cells zs 4)) := by
    intro W
    have hr := run_make (P := Try.prog) W 33 4 i0 (.bool false) Try.underlying33 hi hz0 .i64 .i64 (m : Int) (m : Int) (by omega) (by omega) (by rw [hz2]; omega) (by omega)
    rw [Int.toNat_natCast, hz1, hzs] at hr
    exact hr
  have HZ := Lib.hid (show zs.size = m ∧ ∀ i, i < m → zs[i]? = some (.bool false) from ⟨by rw [← hzs, size_madeCells]; omega, fun i hi => by rw [← hzs]; exact made_false _ i hi⟩)
  have hk := skip_rng (x := x) (y := y) (a := a) (m := m) (by omega)
  have HO := Lib.hid (fun W => of_any x y a m W h1)
  generalize offI x y a m = o at *
  generalize skipI x y a m = k at *
  clear hp hi hz0 hz1 hz2 hzs
  go_enter Try.func5, Try.ntmps5
  go_wp2_with fail
  refine (prime_any m _).mono ?_; rintro e w' ⟨rfl, rfl⟩
  rw [HP.out]
  go_wp2_with fail
  refine (HO.out _).mono ?_; rintro e w2 ⟨v, rfl, hrow, h2⟩
  rcases hrow.2 with ⟨_, h0⟩ | ⟨gl, c, cur, rfl, hgl, hh, _⟩
  · omega
  have HROW := Lib.hid hrow
  have hgl2 : gl < w2.heap.size := lt_of_block hh
  have B2 : Hid (Below w.heap.size w w2) := HB0.out.trans (h2.mono HB0.out.size)
  clear hrow h2 hh
  go_wp2_with fail
  have hbz : Blk (w2.alloc (.cells zs 4)) w2.heap.size 4 zs := Blk.new _ _ _
  have H0 : Hid (SeenIs (w2.alloc (.cells zs 4)) w2.heap.size o k m 0) := ⟨zs, hbz, HZ.out.1, fun j hj => HZ.out.2 j hj⟩
  have B3 : Hid (Below w.heap.size w (w2.alloc (.cells zs 4))) := B2.out.alloc B2.out.size _
  have B4 : Hid (Below w2.heap.size w2 (w2.alloc (.cells zs 4))) := (Below.refl _ _).alloc (Nat.le_refl _) _
  clear hbz
  go_loopg [9] (m + 1) (fun gk s9 wr => ∃ i : Nat, s9 = .int .i64 i ∧ gk + i = m + 1 ∧ i ≤ m ∧ Hid (SeenIs wr w2.heap.size o k m i ∧ Below w2.heap.size w2 wr))
  case atStart => exact ⟨0, rfl, by omega, by omega, H0.out, B4.out⟩
  case round =>
    obtain ⟨i, rfl, hgi, him, HI⟩ := hrel
    clear H0 B3 B4
    by_cases hlt : i < m
    · have x0 : wr.cell? ⟨gl, i, none⟩ = some (.int .i64 (slotI o k m i)) := (HI.out.2.cell (p := ⟨gl, i, none⟩) hgl2).trans ((HROW.out.cellAt i (by omega)).trans (izs_at o k m i hlt))
      have hs1 : 0 ≤ slotI o k m i := Int.emod_nonneg _ (by omega)
      have hs2 : slotI o k m i < m := Int.emod_lt_of_pos _ (by omega)
      obtain ⟨s, hs⟩ := Int.eq_ofNat_of_zero_le hs1
      rw [hs] at x0 hs2
      have hsm : s < m := by omega
      have HS := Lib.hid hs
      have HN := Lib.hid (seen_new HPR.out hk hlt hs)
      obtain ⟨cs, hb, hsz, hc⟩ := HI.out.1
      have x1 : wr.cell? ⟨w2.heap.size, s, none⟩ = some (.bool false) := (hb.cell s).trans (by rw [hc s hsm, HN.out])
      have f1 := hb.free s
      clear hs hs1 hb hsz hc
      have t2 : decide ((s : Int) < 0) = false := by simp
      have t3 : decide ((m : Int) ≤ (s : Int)) = false := by simp; omega
      go_wp2_with fail
      go_roundg (gk - 1)
      case rel => exact ⟨i + 1, by go_num, by omega, by omega, HI.out.1.next HS.out, HI.out.2.setCell (Nat.le_refl _) _⟩
      case measure => omega
    · obtain rfl : i = m := by omega
      go_wp2_with (go_at_call 10; refine (lives_any _).mono ?_; rintro e w1 ⟨rfl, h1⟩; have H1 := Lib.hid h1; clear h1)
      go_ret
      have b5 := B2.out.trans (HI.out.2.mono B2.out.size)
      exact ⟨rfl, b5.trans (H1.out.mono b5.size)⟩
theorem each_walk (x y a m : Int) (w : World) : Calls Try.prog 5 #[.agg #[.int .u64 x, .int .u64 y], .int .i64 a, .int .i64 m] w fun e w' => e = .returned (.bool true) ∧ Below w.heap.size w w' := by
  by_cases h : 1000 < m ∨ primeB m = false
  · exact each_lives x y a m w h
  · have hp : primeB m = true := by
      cases hb : primeB m with
      | true => rfl
      | false => exact absurd (Or.inr hb) h
    have h2 := ((primeB_iff m).1 hp).1
    obtain ⟨n, rfl⟩ := Int.eq_ofNat_of_zero_le (show 0 ≤ m by omega)
    exact each_prime x y a n w (by omega) hp
end Go.Proofs.Ytgpdenhgbipopaa
