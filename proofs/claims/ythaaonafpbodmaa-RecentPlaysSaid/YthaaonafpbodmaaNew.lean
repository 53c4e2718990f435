/-
  The walk of New. No condition.
-/
import Derived.Test.YthaaonafpbodmaaRefs
import Derived.Laws.MakeOwn
namespace Go.Proofs.Ythaaonafpbodmaa
open Go.ChangeShapes Go.WideShapes Go.ChangeAt Go.RowKit
set_option linter.unusedVariables false
set_option linter.unusedSimpArgs false

/-- A ring at R, without a list. -/
structure RG (w : World) (R D U n : Nat) (up dn : Nat → Int) (m : Int) : Prop where
  r : Blk w R 43 (rcells n D U m)
  d : Arr w D n dn
  u : Arr w U n up
  ne : D ≠ U
section
variable {w : World} {R D U n : Nat} {up dn : Nat → Int} {m : Int}
theorem RG.neRD (h : RG w R D U n up dn m) : R ≠ D := by obtain ⟨cs, hb, _⟩ := h.d; exact h.r.differ hb (by decide)
theorem RG.neRU (h : RG w R D U n up dn m) : R ≠ U := by obtain ⟨cs, hb, _⟩ := h.u; exact h.r.differ hb (by decide)
theorem RG.setU (h : RG w R D U n up dn m) (a : Nat) (v : Int) : RG (w.setCell ⟨U, a, none⟩ (.int .i64 v)) R D U n (set1 up a v) dn m :=
  ⟨h.r.away h.neRU _, h.d.away h.ne _, h.u.put a v, h.ne⟩
theorem RG.setD (h : RG w R D U n up dn m) (a : Nat) (v : Int) : RG (w.setCell ⟨D, a, none⟩ (.int .i64 v)) R D U n up (set1 dn a v) m :=
  ⟨h.r.away h.neRD _, h.d.put a v, h.u.away (Ne.symm h.ne) _, h.ne⟩
end
theorem join_ring (R D U n a b : Nat) (up dn : Nat → Int) (m : Int) (w : World) (h : RG w R D U n up dn m) (hn : n ≤ 256) (ha : a ≤ n) (hb : b ≤ n) : Calls Try.prog 16 #[.pointer (some ⟨R, 0, none⟩), .int .i64 a, .int .i64 b] w fun e w' => e = .returned (.tuple #[]) ∧ RG w' R D U n (set1 up a b) (set1 dn b a) m ∧ Chg (fun k => k = D ∨ k = U) w w' := by
  have c0 : w.cell? ⟨R, 0, none⟩ = some (.slice (some ⟨D, 0, none⟩) (n + 1) (n + 1)) := h.r.cell 0
  have c1 : w.cell? ⟨R, 1, none⟩ = some (.slice (some ⟨U, 0, none⟩) (n + 1) (n + 1)) := h.r.cell 1
  have cu := h.u.cell ha
  have cd := h.d.cell hb
  have fu := h.u.free a
  have fd := h.d.free b
  have hne := h.ne
  have hne2 := Ne.symm h.ne
  have HH := Lib.hid h
  clear h
  go_enter Try.func16, Try.ntmps16
  go_wp2_with fail
  go_region
  all_goals
    go_wp2
    go_end0
    refine ⟨rfl, ?_, ?_⟩
    · have h1 := (HH.out.setU a b).setD b a
      exact ⟨h1.r, h1.d, h1.u, h1.ne⟩
    · exact Chg.draw (Chg.put (Chg.put (Chg.refl _ _) (by exact Or.inl (Or.inr rfl)) _) (by exact Or.inl (Or.inl rfl)) _)
theorem new_none (n : Int) (w : World) (h : n < 1 ∨ 256 < n) : Calls Try.prog 5 #[.int .i64 n] w fun e w' => e = .returned (.pointer none) ∧ w = w' := by
  rcases h with h | h
  · go_enter Try.func5, Try.ntmps5
    go_wp2
    go_ret
    exact ⟨rfl, rfl⟩
  · have h2 : decide (n < 1) = false := by simp; omega
    go_enter Try.func5, Try.ntmps5
    go_wp2
    go_ret
    exact ⟨rfl, rfl⟩

theorem made_zero (m : Nat) (i : Nat) (hi : i < m) : (madeCells (Value.int .i64 0).cells (m * 1))[i]? = some (.int .i64 0) := by
  unfold madeCells
  simp [hi, Value.cells, Nat.mod_one]
/-- What is known while the links are laid. -/
def Laying (w : World) (R D U n i : Nat) (wr : World) : Prop := ∃ up dn, RG wr R D U n up dn 0 ∧ (∀ j, j < i → up j = -1 ∧ dn j = -1) ∧ Below w.heap.size w wr
theorem Laying.next {w wr : World} {R D U n i : Nat} (h : Laying w R D U n i wr) (hd : w.heap.size ≤ D) (hu : w.heap.size ≤ U) : Laying w R D U n (i + 1) ((wr.setCell ⟨D, i, none⟩ (.int .i64 (-1))).setCell ⟨U, i, none⟩ (.int .i64 (-1))).drew := by
  obtain ⟨up, dn, h1, h2, h3⟩ := h
  have h4 := (h1.setD i (-1)).setU i (-1)
  refine ⟨_, _, ⟨h4.r, h4.d, h4.u, h4.ne⟩, fun j hj => ?_, ((h3.setCell hd _).setCell hu _).drew⟩
  by_cases hji : j = i
  · subst hji; exact ⟨set1_same _ _ _, set1_same _ _ _⟩
  · rw [set1_other _ _ hji, set1_other _ _ hji]; exact h2 j (by omega)
theorem Laying.begin {w wr : World} {R D U n : Nat} {zs : Array Value} (h1 : Blk wr R 43 (rcells n D U 0)) (h2 : Blk wr D 3 zs) (h3 : Blk wr U 3 zs) (h4 : D ≠ U) (hz : zs.size = n + 1 ∧ ∀ i, i < n + 1 → zs[i]? = some (.int .i64 0)) (h5 : Below w.heap.size w wr) : Laying w R D U n 0 wr :=
  ⟨fun _ => 0, fun _ => 0, ⟨h1, ⟨zs, h2, hz.1, fun i hi => hz.2 i (by omega)⟩, ⟨zs, h3, hz.1, fun i hi => hz.2 i (by omega)⟩, h4⟩, fun j hj => by omega, h5⟩

def Made (w : World) (n : Nat) (e : Ending) (w' : World) : Prop := ∃ L R D U, e = .returned (.pointer (some ⟨L, 0, none⟩)) ∧ LS w' L R D U n [] ∧ w.heap.size ≤ R ∧ w.heap.size ≤ D ∧ w.heap.size ≤ U ∧ Below w.heap.size w w'
theorem Laying.made {w wr w2 : World} {R D U n : Nat} {up dn : Nat → Int} (hn : 1 ≤ n) (h1 : RG w2 R D U n (set1 up n n) (set1 dn n n) 0) (h2 : ∀ j, j < n → up j = -1 ∧ dn j = -1) (h3 : Below w.heap.size w wr) (hc : Chg (fun k => k = D ∨ k = U) wr w2) (hr : w.heap.size ≤ R) (hd : w.heap.size ≤ D) (hu : w.heap.size ≤ U) :
    Made w n (.returned (.pointer (some ⟨w2.heap.size, 0, none⟩))) (w2.alloc (.cells #[.pointer (some ⟨R, 0, none⟩)] 41)) := by
  have hb : Below w.heap.size w w2 := below_chg h3 hc h3.size (fun k hk h => by omega)
  refine ⟨_, R, D, U, rfl, ⟨set1 up n n, set1 dn n n, ⟨Blk.new _ _ _, h1.r.more _, ?_, ?_, h1.ne⟩, Ring.empty _ _ _ (set1_same _ _ _) (set1_same _ _ _) fun i hi => ?_⟩, hr, hd, hu, hb.alloc hb.size _⟩
  · obtain ⟨cs, k1, k2⟩ := h1.d; exact ⟨cs, k1.more _, k2⟩
  · obtain ⟨cs, k1, k2⟩ := h1.u; exact ⟨cs, k1.more _, k2⟩
  · rw [set1_other _ _ (by omega), set1_other _ _ (by omega)]; exact h2 i hi
theorem new_any (n : Nat) (w : World) (h1 : 1 ≤ n) (h2 : n ≤ 256) : Calls Try.prog 5 #[.int .i64 n] w (Made w n) := by
  obtain ⟨i0, hi, hz0, hz1, hz2⟩ := info_parts info3
  have hb0 : i0.bytes * (n + 1) ≤ 281474976710656 := by rw [hz2]; omega
  obtain ⟨zs, hzs⟩ : ∃ zs, madeCells (Value.int .i64 0).cells ((n + 1) * 1) = zs := ⟨_, rfl⟩
  have hmk : ∀ W : World, (Instr.makeSlice 26 (.int .i64 ((n : Int) + 1)) (.int .i64 ((n : Int) + 1))).run Try.prog W = .ok (.slice (some ⟨W.heap.size, 0, none⟩) (n + 1) (n + 1)) (W.alloc (.cells zs 3)) := by
    intro W
    have hr := run_make (P := Try.prog) W 26 3 i0 (.int .i64 0) Try.underlying26 hi hz0 .i64 .i64 ((n : Int) + 1) ((n : Int) + 1) (by omega) (by omega) (by rw [hz2]; omega) (by omega)
    rw [show ((n : Int) + 1).toNat = n + 1 by omega, hz1, hzs] at hr
    exact hr
  have HZ := Lib.hid (show zs.size = n + 1 ∧ ∀ i, i < n + 1 → zs[i]? = some (.int .i64 0) from ⟨by rw [← hzs, size_madeCells]; omega, fun i hi => by rw [← hzs]; exact made_zero _ i hi⟩)
  have t1 : decide ((n : Int) < 1) = false := by simp; omega
  have t2 : decide ((256 : Int) < n) = false := by simp; omega
  clear hi hz0 hz1 hz2 hb0 hzs
  go_enter Try.func5, Try.ntmps5
  go_wp2_with fail
  go_region
  all_goals
    go_wp2_with fail
    first
    | (have HLAY : Hid (Laying w (w.heap.size + 1 + 1) w.heap.size (w.heap.size + 1) n 0 (((w.alloc (.cells zs 3)).alloc (.cells zs 3)).alloc (.cells (rcells n w.heap.size (w.heap.size + 1) 0) 43)).drew) :=
        Laying.begin (Blk.newAt _ _ _ _ (by simp)) (((Blk.new w 3 zs).more _).more _) ((Blk.newAt (w.alloc _) 3 zs _ (by simp)).more _) (by omega) HZ.out ((((Below.refl w.heap.size w).alloc (Nat.le_refl _) _).alloc (by simp) _).alloc (by simp; omega) _).drew
       go_loopg [4, 20] (n + 1) (fun gk s4 s20 wr => ∃ i : Nat, s20 = .int .i64 i ∧ gk + i = n + 1 ∧ i ≤ n ∧ Hid (Laying w (w.heap.size + 1 + 1) w.heap.size (w.heap.size + 1) n i wr))
       case atStart => exact ⟨0, rfl, by omega, by omega, HLAY.out⟩
       case round =>
         obtain ⟨i, rfl, hgi, hin, HI⟩ := hrel
         clear HLAY
         by_cases hlt : i < n
         · obtain ⟨up, dn, k1, k2, k3⟩ := HI.out
           have c0 : wr.cell? ⟨w.heap.size + 1 + 1, 0, none⟩ = some (.slice (some ⟨w.heap.size, 0, none⟩) (n + 1) (n + 1)) := k1.r.cell 0
           have c1 : wr.cell? ⟨w.heap.size + 1 + 1, 1, none⟩ = some (.slice (some ⟨(w.heap.size + 1), 0, none⟩) (n + 1) (n + 1)) := k1.r.cell 1
           have cu := k1.u.cell (Nat.le_of_lt hlt)
           have cd := k1.d.cell (Nat.le_of_lt hlt)
           have fu := k1.u.free i
           have fd := k1.d.free i
           have b1 : (0 : Int) ≤ (i : Int) := by omega
           have b2 : (i : Int) < (n : Int) + 1 := by omega
           have b3 : (i : Int) < ((n + 1 : Nat) : Int) := by omega
           clear k1 k2 k3
           go_wp2_with fail
           go_region
           go_wp2_with fail
           go_roundg (gk - 1)
           case rel => exact ⟨i + 1, by go_num, by omega, by omega, HI.out.next (by omega) (by omega)⟩
           case measure => omega
         · obtain rfl : i = n := by omega
           obtain ⟨up, dn, k1, k2, k3⟩ := HI.out
           have K1 := Lib.hid k1
           have K2 := Lib.hid k2
           have K3 := Lib.hid k3
           clear k1 k2 k3
           go_wp2_with fail
           refine (join_ring _ w.heap.size (w.heap.size + 1) i i i up dn 0 _ K1.out (by omega) (Nat.le_refl _) (Nat.le_refl _)).mono ?_; rintro e w2 ⟨rfl, h3, h4⟩
           have H3 := Lib.hid h3
           have H4 := Lib.hid h4
           clear h3 h4
           go_wp2_with fail
           go_ret
           exact Laying.made h1 H3.out K2.out K3.out H4.out (by omega) (by omega) (by omega))
    | (have HLAY : Hid (Laying w (w.heap.size + 1 + 1) (w.heap.size + 1) w.heap.size n 0 (((w.alloc (.cells zs 3)).alloc (.cells zs 3)).alloc (.cells (rcells n (w.heap.size + 1) w.heap.size 0) 43)).drew) :=
        Laying.begin (Blk.newAt _ _ _ _ (by simp)) ((Blk.newAt (w.alloc _) 3 zs _ (by simp)).more _) (((Blk.new w 3 zs).more _).more _) (by omega) HZ.out ((((Below.refl w.heap.size w).alloc (Nat.le_refl _) _).alloc (by simp) _).alloc (by simp; omega) _).drew
       go_loopg [4, 20] (n + 1) (fun gk s4 s20 wr => ∃ i : Nat, s20 = .int .i64 i ∧ gk + i = n + 1 ∧ i ≤ n ∧ Hid (Laying w (w.heap.size + 1 + 1) (w.heap.size + 1) w.heap.size n i wr))
       case atStart => exact ⟨0, rfl, by omega, by omega, HLAY.out⟩
       case round =>
         obtain ⟨i, rfl, hgi, hin, HI⟩ := hrel
         clear HLAY
         by_cases hlt : i < n
         · obtain ⟨up, dn, k1, k2, k3⟩ := HI.out
           have c0 : wr.cell? ⟨w.heap.size + 1 + 1, 0, none⟩ = some (.slice (some ⟨(w.heap.size + 1), 0, none⟩) (n + 1) (n + 1)) := k1.r.cell 0
           have c1 : wr.cell? ⟨w.heap.size + 1 + 1, 1, none⟩ = some (.slice (some ⟨w.heap.size, 0, none⟩) (n + 1) (n + 1)) := k1.r.cell 1
           have cu := k1.u.cell (Nat.le_of_lt hlt)
           have cd := k1.d.cell (Nat.le_of_lt hlt)
           have fu := k1.u.free i
           have fd := k1.d.free i
           have b1 : (0 : Int) ≤ (i : Int) := by omega
           have b2 : (i : Int) < (n : Int) + 1 := by omega
           have b3 : (i : Int) < ((n + 1 : Nat) : Int) := by omega
           clear k1 k2 k3
           go_wp2_with fail
           go_region
           go_wp2_with fail
           go_roundg (gk - 1)
           case rel => exact ⟨i + 1, by go_num, by omega, by omega, HI.out.next (by omega) (by omega)⟩
           case measure => omega
         · obtain rfl : i = n := by omega
           obtain ⟨up, dn, k1, k2, k3⟩ := HI.out
           have K1 := Lib.hid k1
           have K2 := Lib.hid k2
           have K3 := Lib.hid k3
           clear k1 k2 k3
           go_wp2_with fail
           refine (join_ring _ (w.heap.size + 1) w.heap.size i i i up dn 0 _ K1.out (by omega) (Nat.le_refl _) (Nat.le_refl _)).mono ?_; rintro e w2 ⟨rfl, h3, h4⟩
           have H3 := Lib.hid h3
           have H4 := Lib.hid h4
           clear h3 h4
           go_wp2_with fail
           go_ret
           exact Laying.made h1 H3.out K2.out K3.out H4.out (by omega) (by omega) (by omega))
end Go.Proofs.Ythaaonafpbodmaa
