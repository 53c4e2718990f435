/-
  The walk of hunt.Search. No condition beyond what may be.
-/
import Derived.Test.YtikceomnkkpljaaFind
namespace Go.Proofs.Ytikceomnkkpljaa
open Go.ChangeShapes Go.WideShapes Go.ChangeAt Go.RowKit Go.Shelf
set_option linter.unusedVariables false
set_option linter.unusedSimpArgs false
attribute [local go_sem] Oper.semAt_some

/-- Where a segment goes whose owner isn't known. -/
def searchL (ps : List (Int × Int)) (al : List Int) : List Seg := segL 4 0 ((nodesL (flatN (lastL ps).reverse)).filter (fun x => decide (x ∈ al)))
theorem OwnP.cells {w : World} {B g n c : Nat} {l : List (Int × Int)} (h : OwnP w B (.slice (some ⟨g, 0, none⟩) n c) l) : PCells w g 0 l := fun i hi => by
  obtain ⟨f0, f1⟩ := flatPr_at l i hi
  have h' : w.ownsRow B 42 2 (.slice (some ⟨g, 0, none⟩) l.length c) l.length (flatPr l) := by
    have := h
    unfold OwnP at this
    rcases this.2 with ⟨hv, _⟩ | ⟨g', cap, cur, hv, _⟩
    · cases hv
    · injection hv with e1 e2 e3
      subst e2
      exact this
  rw [Nat.zero_add]
  exact ⟨(row_cell h' _ _ f0).1, (row_cell h' _ _ f1).1⟩
/-- What holds between two rounds. -/
def LoopS (w : World) (X B : Nat) (bx : Value) (al : List Int) (pre : List Node) (W : World) : Prop := (∃ v, ListIs W X B 0 v (segL 4 0 ((vals pre).filter (fun x => decide (x ∈ al))))) ∧ Blk W (X + 1) 45 #[.pointer (some ⟨X, 0, none⟩)] ∧ Blk W w.heap.size 30 #[bx] ∧ Below w.heap.size w W
theorem LoopS.own {w : World} {X B N : Nat} {bx : Value} {al : List Int} (hN : w.heap.size ≤ N) (hB : w.heap.size ≤ B) : OwnFrom N (LoopS w X B bx al) := by
  rintro pre W W' row ⟨⟨v, h1⟩, h2, h3, h4⟩ hg hr
  exact ⟨⟨v, h1.kept hg (fun r e => (hr r e).2)⟩, cells_kept h2 hg (fun r e => (hr r e).2), cells_kept h3 hg (fun r e => (hr r e).2), h4.grown hg (Nat.le_trans hB h1.le) (fun k e => Nat.le_trans hN (hr k e).1)⟩
theorem ListIs.keeps {W1 W2 : World} {X B k : Nat} {a : Int} {u : Value} {ls : List Seg} {t : TypeId} {cs : Array Value} (h1 : ListIs W1 X B a u ls) (h2 : Chg (OwnL X u) W1 W2) (h3 : Blk W1 k t cs) (t1 : t ≠ 47) (t2 : t ≠ 34) : Blk W2 k t cs := h3.kept h2 (fun e => by
  rcases e with rfl | e
  · exact (h3.differ h1.blk t1) rfl
  · obtain ⟨ds, hds⟩ := h1.row.type e
    exact (h3.differ hds t2) rfl)
set_option maxRecDepth 100000 in
set_option maxHeartbeats 3200000 in
theorem search_any (A A2 : Option Addr) (n c n2 c2 : Nat) (ps : List (Int × Int)) (al : List Int) (w : World) (h : PRow w A ps) (hn : ps.length = n) (hm : n ≤ 1000000) (hc : n ≤ c) (hc2 : c ≤ 9223372036854775807) (hw : ∀ p ∈ ps, wfi p.1 ∧ wfi p.2)
    (h2 : NRow w A2 al) (hn2 : al.length = n2) (hm2 : n2 ≤ 1000000) :
    Calls Try.prog 12 #[.slice A n c, .slice A2 n2 c2] w fun e w' => ∃ v, e = .returned v ∧ OwnA w' w.heap.size v (searchL ps al) ∧ Below w.heap.size w w' := by
  have B0 : Below w.heap.size w (w.alloc (.cells #[.slice A2 n2 c2] 30)) := (Below.refl _ _).alloc (Nat.le_refl _) _
  have K0 : Hid (Blk (w.alloc (.cells #[.slice A2 n2 c2] 30)) w.heap.size 30 #[.slice A2 n2 c2]) := Blk.new _ _ _
  have HK := Lib.hid (kept_any A n c ps _ (h.later B0) hn hm hc hc2)
  have HB0 := Lib.hid B0
  have HN := Lib.hid h2
  have HNL := Lib.hid hn2
  have HW := Lib.hid hw
  clear h hn hw h2 hn2 B0
  refine (callsIn_wide (n := 4)).1 ?_
  refine callsIn_of_wp_marks Try.func12 rfl trivial ?_ rfl
  simp only [Try.ntmps12, List.size_toArray, List.length_cons, List.length_nil, Nat.reduceAdd, Nat.reduceSub, Array.replicate_succ, Array.replicate_zero, List.push_toArray, List.append_toArray, List.nil_append, List.cons_append]
  refine (wpIn_wide).2 ?_
  go_wp2_with fail
  refine HK.out.mono ?_
  rintro e w' ⟨A', n', c', rfl, k1, k2, k3, k4, rfl⟩
  have hm4 : n' ≤ 4 := by have := lastL_few ps; omega
  have HCL := Lib.hid (clone_any A' n' c' (lastL ps) _ k4 k1 (by omega))
  have K1 := Lib.hid k1
  clear k1 k4
  go_wp2_with fail
  refine HCL.out.mono ?_; rintro e w1 ⟨v1, rfl, o1, b1⟩
  have hwa : w.heap.size < (w.alloc (.cells #[.slice A2 n2 c2] 30)).heap.size := by simp
  obtain ⟨wa, hwaE⟩ : ∃ wa, w.alloc (.cells #[.slice A2 n2 c2] 30) = wa := ⟨_, rfl⟩
  rw [hwaE] at o1 b1 hwa HB0 K0
  have O1 := Lib.hid o1
  have B1 := Lib.hid b1
  have HR : Hid (Calls Try.prog 28 #[v1] w1 fun e w' => (∃ r, e = .returned r) ∧ OwnP w' wa.heap.size v1 (lastL ps).reverse ∧ Below wa.heap.size wa w') := by
    rcases o1.2 with ⟨rfl, h0⟩ | ⟨g, cap, cur, rfl, hg, _⟩
    · refine (rev_nil w1).mono ?_
      rintro e w' ⟨hr, rfl⟩
      have h0' : lastL ps = [] := List.eq_nil_of_length_eq_zero h0
      refine ⟨hr, ?_, b1⟩
      rw [h0']
      exact World.ownsRow_nil _ _ _ _
    · refine (rev_any g _ cap wa.heap.size (lastL ps) w1 o1 rfl (lastL_few ps) b1.size).mono ?_
      rintro e w' ⟨hr, h1, h2⟩
      refine ⟨hr, ?_, below_chg b1 h2 b1.size (fun k hk e => by subst e; omega)⟩
      exact h1
  clear o1 b1 HCL HK
  go_wp2_with fail
  refine HR.out.mono ?_; rintro e w2 ⟨⟨r, rfl⟩, o2, b2⟩
  obtain ⟨A3, c3, rfl⟩ : ∃ A3 c3, v1 = .slice A3 n' c3 := by
    obtain ⟨A3, c3, h⟩ := o2.form
    exact ⟨A3, c3, by rw [h, List.length_reverse, K1.out]⟩
  have O2 := Lib.hid o2
  have B2 := Lib.hid b2
  have hw2 : wa.heap.size ≤ w2.heap.size := b2.size
  have y0 : w2.cell? ⟨w.heap.size, 0, none⟩ = some (.slice A2 n2 c2) := (b2.cell (p := ⟨w.heap.size, 0, none⟩) hwa).trans ((K0.out.cell 0).trans rfl)
  clear o2 b2 HR
  go_wp2_with fail
  refine (each_any A3 n' c3 _).mono ?_; rintro e w' ⟨rfl, rfl⟩
  go_wp2_with fail
  obtain ⟨X, hX⟩ : ∃ X, w2.heap.size = X := ⟨_, rfl⟩
  have hwX : w.heap.size < X := by omega
  have hgA : ∃ g, g < X ∧ (0 < n' → A3 = some ⟨g, 0, none⟩ ∧ PCells w2 g 0 (lastL ps).reverse) := by
    rcases Nat.eq_zero_or_pos n' with h | h
    · exact ⟨0, by omega, fun h' => by omega⟩
    · have hO := O2.out
      rcases hO.2 with ⟨hv, h0⟩ | ⟨g, cap, cur, hv, hB, hh, _⟩
      · rw [List.length_reverse, K1.out] at h0; omega
      · have hlt := lt_of_block hh
        injection hv with e1 e2 e3
        refine ⟨g, by omega, fun _ => ⟨e1, ?_⟩⟩
        subst e1
        exact OwnP.cells hO
  obtain ⟨g, hgX, hA⟩ := hgA
  have HA := Lib.hid hA
  have C0 : Below w2.heap.size w2 (((w2.alloc (.cells #[.int .u32 0, .slice none 0 0] 47)).alloc (.cells #[.pointer (some ⟨w2.heap.size, 0, none⟩)] 45)).alloc (.cells #[.slice A3 n' c3] 22)) := (((Below.refl _ _).alloc (Nat.le_refl _) _).alloc (by simp) _).alloc (by simp; omega) _
  have E0 : Hid (Blk (((w2.alloc (.cells #[.int .u32 0, .slice none 0 0] 47)).alloc (.cells #[.pointer (some ⟨w2.heap.size, 0, none⟩)] 45)).alloc (.cells #[.slice A3 n' c3] 22)) w2.heap.size 47 #[.int .u32 0, .slice none 0 0]) := ((Blk.new w2 47 _).more _).more _
  have E1 : Hid (Blk (((w2.alloc (.cells #[.int .u32 0, .slice none 0 0] 47)).alloc (.cells #[.pointer (some ⟨w2.heap.size, 0, none⟩)] 45)).alloc (.cells #[.slice A3 n' c3] 22)) (w2.heap.size + 1) 45 #[.pointer (some ⟨w2.heap.size, 0, none⟩)]) := (Blk.newAt _ 45 _ _ (by simp)).more _
  have E2 : Hid (Blk (((w2.alloc (.cells #[.int .u32 0, .slice none 0 0] 47)).alloc (.cells #[.pointer (some ⟨w2.heap.size, 0, none⟩)] 45)).alloc (.cells #[.slice A3 n' c3] 22)) (w2.heap.size + 2) 22 #[.slice A3 n' c3]) := Blk.newAt _ 22 _ _ (by simp)
  have E3 : Hid ((((w2.alloc (.cells #[.int .u32 0, .slice none 0 0] 47)).alloc (.cells #[.pointer (some ⟨w2.heap.size, 0, none⟩)] 45)).alloc (.cells #[.slice A3 n' c3] 22)).heap.size = w2.heap.size + 3) := by unfold Hid; simp
  obtain ⟨wc, hwc⟩ : ∃ wc, (((w2.alloc (.cells #[.int .u32 0, .slice none 0 0] 47)).alloc (.cells #[.pointer (some ⟨w2.heap.size, 0, none⟩)] 45)).alloc (.cells #[.slice A3 n' c3] 22)) = wc := ⟨_, rfl⟩
  rw [hwc] at C0 E0 E1 E2 E3 ⊢
  have HB2 : Hid (Below w.heap.size w w2) := HB0.out.trans (B2.out.mono HB0.out.size)
  have HB : Hid (Below w.heap.size w wc) := HB2.out.trans (C0.mono HB2.out.size)
  have EB : Hid (Blk wc w.heap.size 30 #[.slice A2 n2 c2]) := (K0.out.below B2.out hwa).below C0 (by omega)
  have HPC : Hid (0 < n' → A3 = some ⟨g, 0, none⟩ ∧ PCells wc g 0 (lastL ps).reverse) := fun h => ⟨(hA h).1, (hA h).2.kept (C0.block g (by omega))⟩
  rw [hX] at E0 E1 E2 E3 ⊢
  have E4 : Hid (wc.heap.size = X + 3) := E3
  have L0 : Hid (ListIs wc X (X + 3) 0 (.slice none 0 0) []) := ⟨E0.out, OwnA.nil _ _, by omega, by rw [E4.out]; exact Nat.le_refl _⟩
  have HRW : Hid (∀ p ∈ (lastL ps).reverse, wfi p.1 ∧ wfi p.2) := fun p hp => HW.out p (by
    have h := List.mem_reverse.1 hp
    unfold lastL at h
    exact List.mem_of_mem_drop h)
  have HRL : Hid ((lastL ps).reverse.length = n') := by unfold Hid; rw [List.length_reverse, K1.out]
  clear C0 hX hwc hA
  refine (wpIn_wide (n := 4)).1 ?_
  refine wpIn_rangeFunc_ownG rfl (by omega) (gf := 32) (lb := #[.pointer (some ⟨X + 1 + 1, 0, none⟩)]) rfl trivial (enters_of Try.func32 (by kernel_rfl) rfl)
    (each_stops 3 (X + 2) g 0 n' c3 A3 (lastL ps).reverse wc (by omega) (by rw [E4.out]; omega) (fun h => ⟨(HPC.out h).1, by rw [E4.out]; omega, (HPC.out h).2⟩) HRL.out (by omega) HRW.out ((E2.out.cell 0).trans rfl)) KpG.trans (fun W l o o' hl hh hc hw => KpG.put (show g < wc.heap.size by rw [E4.out]; omega) W l o o' hl hh hc hw) (Below.refl _ _) (fun _ => rfl)
    (LoopS w X (X + 3) (.slice A2 n2 c2) al) (fun _ _ _ => False) (LoopS.own HB.out.size (by omega)) (fun _ _ _ _ _ hs _ _ => hs)
    ⟨⟨_, L0.out⟩, E1.out, EB.out, HB.out⟩
    (fun z => { tmps := #[.slice A n c, .slice A2 n2 c2, undef, .pointer (some ⟨w.heap.size, 0, none⟩), .slice none 0 0, .slice A3 n' c3, .pointer (some ⟨X + 1, 0, none⟩), .int .i64 z.1, .slice A n c, .slice A' n' c', .slice A3 n' c3, .slice A3 n' c3, r, .agg #[.int .u32 0, .slice none 0 0], .pointer (some ⟨X, 0, none⟩), .slice A3 n' c3, .func (.func 32) #[] #[.pointer (some ⟨X + 1 + 1, 0, none⟩)], .int .i64 z.1, undef, undef, undef, undef, undef, undef, undef, undef, undef, undef], defers := [] }) ?assign ?body ?done ?stop
  case assign =>
    intro l z W KK hKK
    gi_wp2
    exact hKK
  case body =>
    rintro l pre z W ⟨⟨v, hL⟩, hbox, hal, hB⟩ hlt
    have hcell : W.cell? ⟨X + 1, 0, none⟩ = some (.pointer (some ⟨X, 0, none⟩)) := (hbox.cell 0).trans rfl
    have hcell2 : W.cell? ⟨w.heap.size, 0, none⟩ = some (.slice A2 n2 c2) := (hal.cell 0).trans rfl
    have hz := isN_ok z.2
    have hpl : (segL 4 0 ((vals pre).filter (fun x => decide (x ∈ al)))).length ≤ 1000 := by
      rw [segL_len]
      have h1 := List.length_filter_le (fun x => decide (x ∈ al)) (vals pre)
      have h2 : (vals pre).length = pre.length := by simp [vals]
      omega
    have HC := Lib.hid (contains_any A2 n2 c2 al z.1 W (HN.out.later hB) HNL.out hm2)
    by_cases hin : z.1 ∈ al
    · have HT : Hid (decide (z.1 ∈ al) = true) := by simpa [Hid] using hin
      have HAD := Lib.hid (add_any X (X + 3) 0 z.1 4 v _ W hL hpl (by omega) (by omega) (by omega))
      clear hin
      gi_wp2_with (first
        | (refine And.intro trivial ?_; gi_at_call 29; refine (CallsIn.inRound l (callsIn_wide.2 HC.out)).mono ?_; rintro e W' ⟨rfl, rfl⟩; rw [HT.out])
        | (refine And.intro trivial ?_; gi_at_call 23; refine (CallsIn.inRound l (callsIn_wide.2 HAD.out)).mono ?_; rintro e W' ⟨⟨r, rfl⟩, v', h1, h2⟩)
        | fail)
      refine ⟨(hL.others h2).from _, hL.kpG h2 (by omega) (by have := hL.le; omega), ⟨v', ?_⟩, hL.keeps h2 hbox (by decide) (by decide), hL.keeps h2 hal (by decide) (by decide), hL.below h2 hB (by omega) (by have := hL.le; omega)⟩
      rw [vals_snoc, List.filter_append]
      simp only [List.filter_cons, HT.out, if_true, List.filter_nil]
      rw [segL_snoc]
      exact h1
    · have HT : Hid (decide (z.1 ∈ al) = false) := by simpa [Hid] using hin
      clear hin
      gi_wp2_with (first
        | (refine And.intro trivial ?_; gi_at_call 29; refine (CallsIn.inRound l (callsIn_wide.2 HC.out)).mono ?_; rintro e W' ⟨rfl, rfl⟩; rw [HT.out])
        | fail)
      refine ⟨KeepsFrom.refl _ _, ⟨KeepsWalks.refl _, rfl⟩, ⟨v, ?_⟩, hbox, hal, hB⟩
      rw [vals_snoc, List.filter_append]
      simp only [List.filter_cons, HT.out, List.filter_nil]
      rw [if_neg (by decide), List.append_nil]
      exact hL
  case done =>
    rintro D ys W hD hS ⟨⟨v, hL⟩, hbox, hal, hB⟩ hK
    have hcell : W.cell? ⟨X + 1, 0, none⟩ = some (.pointer (some ⟨X, 0, none⟩)) := (hbox.cell 0).trans rfl
    have hx1 : W.cell? ⟨X, 1, none⟩ = some v := (hL.blk.cell 1).trans rfl
    have HD : Hid (w.heap.size ≤ D) := Nat.le_trans HB.out.size hD
    have HHL := Lib.hid hL
    have HKD := Lib.hid hK
    have HBB := Lib.hid hB
    have HS := Lib.hid hS
    clear hL hK hB hS hbox hal
    go_wp2_with fail
    refine ⟨by simp, .inl ⟨_, _, rfl, run_takeDeferred HKD.out, ?_⟩⟩
    refine ⟨_, results_tmp rfl _ _ _, v, rfl, ?_, HBB.out.trans (belowK_b (w := w) (Nat.le_refl _) W D _ _ HD.out HKD.out rfl rfl)⟩
    have hfin := HHL.out.row
    rw [HS.out] at hfin
    exact OwnA.base (ownsRow_putObj hfin _ HKD.out rfl) (by omega)
  case stop =>
    rintro D c pre W _ _ h _
    exact h.elim
end Go.Proofs.Ytikceomnkkpljaa
