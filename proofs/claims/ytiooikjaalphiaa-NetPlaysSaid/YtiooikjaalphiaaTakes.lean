/-
  The walk of Take and Double. No condition.
-/
import Derived.Test.YtiooikjaalphiaaTake
namespace Go.Proofs.Ytiooikjaalphiaa
open Go.ChangeShapes Go.WideShapes Go.ChangeAt Go.RowKit
set_option linter.unusedVariables false
set_option linter.unusedSimpArgs false

theorem NetIs.drew {w : World} {N B : Nat} {v : Value} {ps : List Pk} {l : Int} (h : NetIs w N B v ps l) : NetIs w.drew N B v ps l := h.other ((Below.refl _ _).drew)
/-- Behind a call that left all below: the row is laid anew. -/
theorem NetIs.stored {w w3 : World} {N B : Nat} {v v' : Value} {ps qs : List Pk} {l : Int} (h : NetIs w N B v ps l) (hb : Below w.heap.size w w3) (hq : ∀ p ∈ qs, p ∈ ps) (hown : w3.ownsRow B 41 2 v' qs.length (flatP qs)) : NetIs (w3.setCell ⟨N, 1, none⟩ v') N B v' qs l := by
  have h3 := h.other hb
  refine ⟨h3.1.put 1 _ rfl, row_away hown _ _ h.2.2.2.1, fun p hp => ⟨Blk.away (h3.2.2.1 p (hq p hp)).1 (by have := (h3.2.2.1 p (hq p hp)).2; have := h.2.2.2.1; show p.g ≠ N; omega) _, (h3.2.2.1 p (hq p hp)).2⟩, h3.2.2.2.1, by simpa [World.setCell] using h3.2.2.2.2⟩
theorem row_set {W : World} {B n : Nat} {v : Value} {xs : List Value} (h : W.ownsRow B 41 2 v n xs) (p : Addr) (x : Value) (hp : ∀ k, v.ownBlock = some k → k ≠ p.block) : (W.setCell p x).ownsRow B 41 2 v n xs := by
  refine ⟨h.1, ?_⟩
  rcases h.2 with h2 | ⟨g, cap, cur, rfl, h2, h3, h4⟩
  · exact Or.inl h2
  · exact Or.inr ⟨g, cap, cur, rfl, h2, Blk.away h3 (hp g rfl) x, h4⟩
theorem row_lt {W : World} {B n : Nat} {v : Value} {xs : List Value} (h : W.ownsRow B 41 2 v n xs) : ∀ k, v.ownBlock = some k → k < W.heap.size := fun k hk => (h.lt k hk).2
/-- What stands behind the call of without. -/
def Taken (n : Nat) (X : List Value) (p : Pk) (wa : World) (t : Nat) (v : Value) (wx : World) : Prop := wx.ownsRow wa.heap.size 41 2 v n X ∧ Blk wx t 41 #[.slice (some ⟨p.g, 0, none⟩) p.bs.length p.bs.length, .int .i64 p.born] ∧ Below wa.heap.size wa wx ∧ wa.heap.size ≤ t
set_option maxHeartbeats 1600000 in
theorem take_any {N B : Nat} {v : Value} {lost : Int} {w : World} (i : Int) (ps qs : List Pk) (p : Pk) (h : NetIs w N B v (ps ++ p :: qs) lost) (hn : ps.length + qs.length < 200) (hi : -9223372036854775808 ≤ i ∧ i ≤ 9223372036854775807) (hk : i % ((ps ++ p :: qs).length : Nat) = ps.length) :
    Calls Try.prog 11 #[.pointer (some ⟨N, 0, none⟩), .int .i64 i] w fun e w' => ∃ v', e = .returned (.tuple #[.agg #[p.sl, .int .i64 p.born], .bool true]) ∧ NetIs w' N B v' (ps ++ qs) lost ∧ p.lies w' ∧ Chg (OwnN N v) w w' := by
  have hlen : (ps ++ p :: qs).length = ps.length + qs.length + 1 := by simp; omega
  obtain ⟨g, c, rfl, hc1, hg1, hg2, hcr, hc2⟩ := h.some_ (by rw [hlen]; omega)
  obtain ⟨L, hL⟩ : ∃ L, (ps ++ p :: qs).length = L := ⟨_, rfl⟩
  have hpl := (h.2.2.1 p (by simp)).1
  have HPL := Lib.hid hpl
  have HLL := Lib.hid hL
  have HLN := Lib.hid hlen
  have HN := Lib.hid h
  have HCR := Lib.hid hcr
  have HC1 := Lib.hid hc1
  rw [hL] at hk
  have HK := Lib.hid hk
  have hL1 : 1 ≤ L := by omega
  have hL2 : L ≤ 1000 := by omega
  have t1 : ((L : Int) == 0) = false := by simp; omega
  have c1 : w.cell? ⟨N, 1, none⟩ = some (.slice (some ⟨g, 0, none⟩) L c) := by rw [← hL]; exact h.1.cell 1
  have hNB := h.2.2.2.1
  have hBw := h.2.2.2.2
  have N0 : Hid (NetIs (w.alloc (.cells #[.slice none 0 0, .int .i64 0] 41)) N B (.slice (some ⟨g, 0, none⟩) (ps ++ p :: qs).length c) (ps ++ p :: qs) lost) := h.other ((Below.refl _ _).alloc (Nat.le_refl _) _)
  have K4 : Hid (Blk (w.alloc (.cells #[.slice none 0 0, .int .i64 0] 41)) w.heap.size 41 #[.slice none 0 0, .int .i64 0]) := Blk.new _ _ _
  have HB0 : Hid (Below w.heap.size w (w.alloc (.cells #[.slice none 0 0, .int .i64 0] 41))) := (Below.refl _ _).alloc (Nat.le_refl _) _
  have hsz : (w.alloc (.cells #[.slice none 0 0, .int .i64 0] 41)).heap.size = w.heap.size + 1 := by simp
  obtain ⟨wa, hwaE⟩ : ∃ wa, w.alloc (.cells #[.slice none 0 0, .int .i64 0] 41) = wa := ⟨_, rfl⟩
  rw [hwaE] at N0 K4 HB0 hsz
  have HSZ := Lib.hid (Nat.le_of_eq hsz.symm)
  have HWE := Lib.hid hwaE
  have hNlt : N < wa.heap.size := N0.out.1.lt
  have NB : Hid (Blk wa N 53 #[.bool true, .slice (some ⟨g, 0, none⟩) L c, .int .i64 lost]) := by unfold Hid; rw [← hL]; exact N0.out.1
  have hne : N ≠ wa.heap.size := Nat.ne_of_lt hNlt
  have d1 : wa.cell? ⟨N, 1, none⟩ = some (.slice (some ⟨g, 0, none⟩) L c) := by rw [← hL]; exact N0.out.1.cell 1
  have HLEN := Lib.hid (len_net N0.out)
  have HLEN2 : Hid (∀ W, Below wa.heap.size wa W → Calls Try.prog 17 #[.pointer (some ⟨N, 0, none⟩)] W fun e w' => e = .returned (.int .i64 (L : Int)) ∧ W = w') := fun W hW => by have := len_net (N0.out.other hW); rw [hL] at this; exact this
  have HROUND := Lib.hid (fun W => round_any i L W hi hL1 hL2)
  have HWO : Hid (∀ W, Below wa.heap.size wa W → Calls Try.prog 23 #[.slice (some ⟨g, 0, none⟩) L c, .int .i64 (i % (L : Int))] W fun e w' => ∃ v, e = .returned (.tuple #[v, .agg #[p.sl, .int .i64 p.born]]) ∧ w'.ownsRow wa.heap.size 41 2 v (ps.length + qs.length) (flatP (ps ++ qs)) ∧ Below wa.heap.size wa w') := by
    intro W hW
    have := without_any g c ps qs p W ((hcr.later HB0.out).later hW) hc1 hc2 (by omega)
    rw [hL] at this
    rw [hk]
    refine this.mono ?_
    rintro e w' ⟨v, rfl, h1, h2⟩
    exact ⟨v, rfl, row_base h1 hW.size, hW.trans (h2.mono hW.size)⟩
  have HWO2 : Hid (∀ W, Below wa.heap.size wa W → Calls Try.prog 23 #[.slice (some ⟨g, 0, none⟩) L c, .int .i64 (i % (L : Int))] W fun e w' => ∃ v, e = .returned (.tuple #[v, .agg #[p.sl, .int .i64 p.born]]) ∧ w'.ownsRow wa.heap.size 41 2 v (ps.length + qs.length) (flatP (ps ++ qs)) ∧ Below wa.heap.size wa w' ∧ Below W.heap.size W w' ∧ ∀ k, v.ownBlock = some k → W.heap.size ≤ k) := by
    intro W hW
    have := without_any g c ps qs p W ((hcr.later HB0.out).later hW) hc1 hc2 (by omega)
    rw [hL] at this
    rw [hk]
    refine this.mono ?_
    rintro e w' ⟨v, rfl, h1, h2⟩
    exact ⟨v, rfl, row_base h1 hW.size, hW.trans (h2.mono hW.size), h2, fun k hk => (h1.lt k hk).1⟩
  rw [hL] at HLEN
  clear hL hlen h hcr hc1 hk hwaE hsz hpl c1
  unfold Pk.sl at HWO HWO2 ⊢
  go_enter Try.func11, Try.ntmps11
  go_wp2_with fail
  rw [HWE.out]
  refine HLEN.out.mono ?_; rintro e w' ⟨rfl, rfl⟩
  go_upto_region 3 with fail
  go_cut [6, 7] (fun s6 s7 wx => ∃ (A3 : Option Addr) (c3 t : Nat), s6 = .slice A3 (ps.length + qs.length) c3 ∧ s7 = .pointer (some ⟨t, 0, none⟩) ∧ Hid (Taken (ps.length + qs.length) (flatP (ps ++ qs)) p wa t (.slice A3 (ps.length + qs.length) c3) wx))
  case first =>
    go_region_held3 (fun W => W.cell? ⟨N, 1, none⟩ = some (.slice (some ⟨g, 0, none⟩) L c)) (first | exact d3 | exact d1 | exact ((Blk.away (Blk.away (KN.out.more _) hne3 _) hne3 _).cell 1).trans rfl | exact ((KN.out.more _).cell 1).trans rfl | exact ((Blk.away (Blk.away KN.out hne _) hne _).cell 1).trans rfl | exact ((NB.out.more _).cell 1).trans rfl | go_keep)
      (first
        | (go_at_call 17; refine Calls.mono (HLEN2.out _ (by first | exact (Below.refl _ _).drew | exact ((Below.refl _ wa).alloc (Nat.le_refl _) _).drew)) ?_; rintro e w' ⟨rfl, rfl⟩)
        | (go_at_call 24; refine Calls.mono (HROUND.out _) ?_; rintro e w' ⟨rfl, rfl⟩)
        | (go_at_call 23; have HC := HWO.out wa.drew ((Below.refl _ _).drew); with_reducible refine Calls.mono HC ?_; clear HC; rintro e w3 ⟨v3, rfl, h3, h4⟩; obtain ⟨A3, c3, rfl⟩ := row_form h3; have R3 := Lib.hid h3; have B3 := Lib.hid h4; have N3 := Lib.hid (N0.out.other B3.out); have d3 : w3.cell? ⟨N, 1, none⟩ = some (.slice (some ⟨g, 0, none⟩) L c) := (B3.out.cell (p := ⟨N, 1, none⟩) hNlt).trans d1; have KN := Lib.hid (NB.out.below B3.out hNlt); have hne3 : N ≠ w3.heap.size := Nat.ne_of_lt (Blk.lt KN.out); clear h3 h4)
        | (go_at_call 23; have HC := HWO2.out (wa.alloc (.cells #[.slice none 0 0, .int .i64 0] 41)).drew (((Below.refl _ wa).alloc (Nat.le_refl _) _).drew); with_reducible refine Calls.mono HC ?_; clear HC; rintro e w3 ⟨v3, rfl, h3, h4, h5, h6⟩; obtain ⟨A3, c3, rfl⟩ := row_form h3; have OW := Lib.hid h6; have R3 := Lib.hid h3; have B3 := Lib.hid h4; have N3 := Lib.hid (N0.out.other B3.out); have d3 : w3.cell? ⟨N, 1, none⟩ = some (.slice (some ⟨g, 0, none⟩) L c) := (B3.out.cell (p := ⟨N, 1, none⟩) hNlt).trans d1; have KN := Lib.hid (NB.out.below B3.out hNlt); have K7 : Blk w3 wa.heap.size 41 #[.slice none 0 0, .int .i64 0] := (Blk.draw (Blk.new wa 41 _)).below h5 (by (simp)); have y0 : w3.cell? ⟨wa.heap.size, 0, none⟩ = some (.slice none 0 0) := (K7.cell 0).trans rfl; have y1 : w3.cell? ⟨wa.heap.size, 1, none⟩ = some (.int .i64 0) := (K7.cell 1).trans rfl; have y2 := K7.free 0; have y3 := K7.free 1; have K7H := Lib.hid K7; clear h3 h4 h5 h6 K7))
    all_goals
      go_wp2_with fail
      go_meet
      first
        | exact ⟨A3, c3, _, rfl, rfl, row_set (row_set R3.out _ _ (fun k hk => by have := OW.out k hk; simp at this; show k ≠ wa.heap.size; omega)) _ _ (fun k hk => by have := OW.out k hk; simp at this; show k ≠ wa.heap.size; omega), (K7H.out.put 0 _ rfl).put 1 _ rfl, (B3.out.setCell (Nat.le_refl _) _).setCell (Nat.le_refl _) _, Nat.le_refl _⟩
        | exact ⟨A3, c3, _, rfl, rfl, World.ownsRow.alloc R3.out _, Blk.new w3 41 _, B3.out.alloc B3.out.size _, B3.out.size⟩
  case rest =>
    obtain ⟨A3, c3, t, rfl, rfl, HT⟩ := hcut
    have hT := HT.out
    have KN := Lib.hid (NB.out.below hT.2.2.1 hNlt)
    have KH := Lib.hid (K4.out.below hT.2.2.1 K4.out.lt)
    have NW := Lib.hid (N0.out.other hT.2.2.1)
    have x1 : wc.cell? ⟨N, 1, none⟩ = some (.slice (some ⟨g, 0, none⟩) L c) := (KN.out.cell 1).trans rfl
    have x2 := KN.out.free 1
    have htN : ¬ N = t := by have := hT.2.2.2; omega
    have htN2 : ¬ t = N := by omega
    have hhN : N < w.heap.size := by omega
    have hth : w.heap.size < t := by have := hT.2.2.2; have := HSZ.out; omega
    have h1 : ¬ N = w.heap.size := by omega
    have h2 : ¬ w.heap.size = N := by omega
    have h3 : ¬ t = w.heap.size := by omega
    have h4 : ¬ w.heap.size = t := by omega
    have x3 : wc.cell? ⟨t, 0, none⟩ = some (.slice (some ⟨p.g, 0, none⟩) p.bs.length p.bs.length) := (hT.2.1.cell 0).trans rfl
    have x4 : wc.cell? ⟨t, 1, none⟩ = some (.int .i64 p.born) := (hT.2.1.cell 1).trans rfl
    have x5 : wc.cell? ⟨w.heap.size, 0, none⟩ = some (.slice none 0 0) := (KH.out.cell 0).trans rfl
    have x6 : wc.cell? ⟨w.heap.size, 1, none⟩ = some (.int .i64 0) := (KH.out.cell 1).trans rfl
    have x7 := KH.out.free 0
    have x8 := KH.out.free 1
    clear hT
    go_wp2_with fail
    have hT := HT.out
    have hh : w.heap.size < wa.heap.size := HSZ.out
    refine bodyPost_ret (results_cell_tmp' rfl _ _ w.heap.size 41 _ _ _ rfl (((Blk.away KH.out h2 _).put 0 (.slice (some ⟨p.g, 0, none⟩) p.bs.length p.bs.length) rfl).put 1 (.int .i64 p.born) rfl) Try.underlying41 rfl size41) rfl ?_
    have hlie : ∀ q : Pk, q.lies wc → q.g < w.heap.size → B ≤ q.g → q.lies (((wc.setCell ⟨N, 1, none⟩ (.slice A3 (ps.length + qs.length) c3)).setCell ⟨w.heap.size, 0, none⟩ (.slice (some ⟨p.g, 0, none⟩) p.bs.length p.bs.length)).setCell ⟨w.heap.size, 1, none⟩ (.int .i64 p.born)) := fun q hq hlt hB =>
      Blk.away (Blk.away (Blk.away hq (by show q.g ≠ N; omega) _) (by show q.g ≠ w.heap.size; omega) _) (by show q.g ≠ w.heap.size; omega) _
    refine ⟨_, rfl, ⟨Blk.away (Blk.away (KN.out.put 1 _ rfl) h1 _) h1 _, ?_, fun q hq => ?_, hNB, ?_⟩, ?_, ?_⟩
    · have := row_away (row_away (row_away hT.1 ⟨N, 1, none⟩ (.slice A3 (ps.length + qs.length) c3) (by show N < wa.heap.size; omega)) ⟨w.heap.size, 0, none⟩ (.slice (some ⟨p.g, 0, none⟩) p.bs.length p.bs.length) hh) ⟨w.heap.size, 1, none⟩ (.int .i64 p.born) hh
      rw [List.length_append]
      exact row_base this (by omega)
    · have hq2 : q ∈ ps ++ p :: qs := by
        rcases List.mem_append.1 hq with h | h
        · exact List.mem_append_left _ h
        · exact List.mem_append_right _ (List.mem_cons_of_mem _ h)
      exact ⟨hlie q (NW.out.2.2.1 q hq2).1 (Blk.lt (HN.out.2.2.1 q hq2).1) (HN.out.2.2.1 q hq2).2, (HN.out.2.2.1 q hq2).2⟩
    · have := hT.2.2.1.size; simp [World.setCell]; omega
    · exact hlie p (NW.out.2.2.1 p (by simp)).1 (Blk.lt HPL.out) (HN.out.2.2.1 p (by simp)).2
    · have c1 : Chg (OwnN N (.slice (some ⟨g, 0, none⟩) (ps ++ p :: qs).length c)) w wc := Chg.of_below (HB0.out.trans (hT.2.2.1.mono HB0.out.size))
      exact Chg.put (Chg.put (Chg.put c1 (by exact Or.inl (Or.inl rfl)) _) (by exact Or.inr (Nat.le_refl _)) _) (by exact Or.inr (Nat.le_refl _)) _
end Go.Proofs.Ytiooikjaalphiaa
