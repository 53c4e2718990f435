/-
  The walk of Newest. No condition.
-/
import Derived.Test.YtblnlmhkaacciaaAlls
namespace Go.Proofs.Ytblnlmhkaacciaa
open Go.ChangeShapes Go.WideShapes Go.ChangeAt Go.RowKit Go.Shelf
set_option linter.unusedVariables false
set_option linter.unusedSimpArgs false
attribute [local go_sem] Oper.semAt_some

theorem results_cell_tmp' {P : Program} {fn : Func} {p u : Tmp} {ty : TypeId} (h : fn.results = #[.cell p ty, .tmp u]) (tmps : Array Value) (w : World) (g : Nat) (t : TypeId) (cs : Array Value) (fr : Nat × Nat) (d : TypeDesc)
    (hp : tmps.getD p undef = .pointer (some ⟨g, 0, none⟩)) (hg : w.heap[g]? = some (.cells cs t fr))
    (hu : P.underlying ty = some d) (hd : (match d with | .struct _ | .array _ _ => true | _ => false) = true) (hi : (P.info? ty).map (·.size) = some cs.size) :
    (results fn tmps).run P w = .ok (.tuple #[.agg cs, tmps.getD u undef]) w := by
  have hp' : tmps[p]?.getD undef = .pointer (some ⟨g, 0, none⟩) := by simpa using hp
  simp [results, h, hp', asAddr, run_loadVar_row w g t ty cs fr d hg hu hd hi]
theorem size32 : (Try.prog.info? 32).map (·.size) = some 4 := by kernel_rfl
def zeroV : Ver := ⟨0, 0, 0, none, 0, []⟩
def lastV (vs : List Ver) : Ver := vs.getLast?.getD zeroV
def cellsV (p : Ver) : Array Value := #[.int .i64 p.num, .int .i64 p.frm, .int .i64 p.unt, p.sl]
def lastNum (L : List (Int × Int × Int × List Int)) : Int := (L.getLast?.map (fun x => x.1)).getD 0
theorem lastV_snoc (t : List Ver) (p : Ver) : lastV (t ++ [p]) = p := by unfold lastV; rw [List.getLast?_append]; simp
theorem lastV_num (vs : List Ver) : (lastV vs).num = lastNum (sayV vs) := by
  unfold lastV lastNum sayV
  rw [List.getLast?_map]
  cases vs.getLast? <;> rfl
/-- What holds between two rounds. -/
def NewI (w : World) (pre : List Ver) (W : World) : Prop := Blk W w.heap.size 32 (cellsV zeroV) ∧ Blk W (w.heap.size + 1) 32 (cellsV (lastV pre)) ∧ Below w.heap.size w W
theorem NewI.own {w : World} {N : Nat} (hN : w.heap.size ≤ N) : OwnFrom N (NewI w) := by
  rintro pre W W' row ⟨h1, h2, h4⟩ hg hr
  exact ⟨blk_turn h1 hg (fun r e => (hr r e).2), blk_turn h2 hg (fun r e => (hr r e).2), below_turn h4 hg hN h4.size hr⟩
theorem blk4 {w : World} {g : Nat} {t : TypeId} {a b c d : Value} (h : Blk w g t #[a, b, c, d]) (a' b' c' d' : Value) : Blk ((((w.setCell ⟨g, 0, none⟩ a').setCell ⟨g, 1, none⟩ b').setCell ⟨g, 2, none⟩ c').setCell ⟨g, 3, none⟩ d') g t #[a', b', c', d'] :=
  (((h.put 0 a' rfl).put 1 b' rfl).put 2 c' rfl).put 3 d' rfl
set_option maxRecDepth 100000 in
set_option maxHeartbeats 3200000 in
theorem newest_any (p : Option Addr) (L : List (Int × Int × Int × List Int)) (w : World) (h : Tells w p L) :
    Calls Try.prog 13 #[.pointer p] w fun e w' => ∃ nu fr un A k c, e = .returned (.tuple #[.agg #[.int .i64 nu, .int .i64 fr, .int .i64 un, .slice A k c], .bool (decide (0 < nu))]) ∧ nu = lastNum L ∧ Below w.heap.size w w' := by
  have HT := Lib.hid h
  clear h
  refine (callsIn_wide (n := 4)).1 ?_
  refine callsIn_of_wp_marks Try.func13 rfl trivial ?_ rfl
  simp only [Try.ntmps13, List.size_toArray, List.length_cons, List.length_nil, Nat.reduceAdd, Nat.reduceSub, Array.replicate_succ, Array.replicate_zero, List.push_toArray, List.append_toArray, List.nil_append, List.cons_append]
  refine (wpIn_wide).2 ?_
  go_wp2_with fail
  refine (each_any _ _).mono ?_; rintro e w' ⟨rfl, rfl⟩
  go_wp2_with fail
  have B0 : Below w.heap.size w (((w.alloc (.cells (cellsV zeroV) 32)).alloc (.cells (cellsV zeroV) 32)).alloc (.cells #[.pointer p] 23)) := (((Below.refl _ _).alloc (Nat.le_refl _) _).alloc (by simp) _).alloc (by simp; omega) _
  have E0 : Hid (Blk (((w.alloc (.cells (cellsV zeroV) 32)).alloc (.cells (cellsV zeroV) 32)).alloc (.cells #[.pointer p] 23)) w.heap.size 32 (cellsV zeroV)) := ((Blk.new w 32 _).more _).more _
  have E1 : Hid (Blk (((w.alloc (.cells (cellsV zeroV) 32)).alloc (.cells (cellsV zeroV) 32)).alloc (.cells #[.pointer p] 23)) (w.heap.size + 1) 32 (cellsV zeroV)) := (Blk.newAt _ 32 _ _ (by simp)).more _
  have E2 : Hid (Blk (((w.alloc (.cells (cellsV zeroV) 32)).alloc (.cells (cellsV zeroV) 32)).alloc (.cells #[.pointer p] 23)) (w.heap.size + 1 + 1) 23 #[.pointer p]) := Blk.newAt _ 23 _ _ (by simp)
  obtain ⟨wc, hwc⟩ : ∃ wc, (((w.alloc (.cells (cellsV zeroV) 32)).alloc (.cells (cellsV zeroV) 32)).alloc (.cells #[.pointer p] 23)) = wc := ⟨_, rfl⟩
  rw [hwc] at B0 E0 E1 E2
  unfold cellsV zeroV Ver.sl at hwc
  simp only [List.length_nil] at hwc
  rw [hwc]
  have HB := Lib.hid B0
  clear hwc B0
  refine (wpIn_wide (n := 4)).1 ?_
  refine range_ready (by omega) (gf := 27) (lb := #[.pointer (some ⟨w.heap.size + 1 + 1, 0, none⟩)]) rfl (enters_of Try.func27 (by kernel_rfl) rfl) HB.out.size
    (each_tells 3 (w.heap.size + 1 + 1) p L w wc (by omega) E2.out.lt ((E2.out.cell 0).trans rfl) HT.out HB.out) (fun _ => rfl)
    (NewI w) (NewI.own HB.out.size) ⟨E0.out, E1.out, HB.out⟩
    (fun x a' W => ∃ Bx, a' = { tmps := #[.pointer p, undef, .pointer (some ⟨w.heap.size, 0, none⟩), .bool false, .pointer (some ⟨w.heap.size + 1, 0, none⟩), .pointer (some ⟨Bx, 0, none⟩), .pointer p, .func (.func 27) #[] #[.pointer (some ⟨w.heap.size + 1 + 1, 0, none⟩)], .agg (cellsV x), undef, undef, undef, undef, undef], defers := [] } ∧ Blk W Bx 32 (cellsV x)) ?hAx ?assign ?body ?done
  case hAx =>
    rintro x a' u W W' row ⟨Bx, h1, h2⟩ hg hr
    exact ⟨Bx, h1, blk_turn h2 hg (fun r e => (hr r e).2)⟩
  case assign =>
    rintro l pre x W KK hI hR hKK
    obtain ⟨nu, fr, un, xA, xc, tab⟩ := x
    have HII := Lib.hid hI
    have HKK := Lib.hid hKK
    unfold encV Ver.sl
    obtain ⟨k, hk⟩ : ∃ k, tab.length = k := ⟨_, rfl⟩
    have HK := Lib.hid hk
    simp only [hk]
    clear hI hR hKK hk
    gi_wp2
    have hga := World.grownBy_alloc W (.cells #[.int .i64 nu, .int .i64 fr, .int .i64 un, .slice xA k xc] 32) none
    refine HKK.out _ _ ((KeepsOthers.alloc _ _).from _) ((Below.refl _ _).alloc HII.out.2.2.size _) (NewI.own (Nat.le_refl _) pre W _ none HII.out hga (fun r e => by cases e)) ⟨W.heap.size, ?_, ?_⟩
    · unfold cellsV Ver.sl
      simp only [HK.out]
    · unfold cellsV Ver.sl
      simp only [HK.out]
      exact Blk.new _ _ _
  case body =>
    rintro l pre x a' W ⟨h1, h2, h4⟩ ⟨Bx, rfl, h6⟩ hlt
    obtain ⟨nu, fr, un, xA, xc, tab⟩ := x
    obtain ⟨q, hq⟩ : ∃ q : Ver, lastV pre = q := ⟨_, rfl⟩
    rw [hq] at h2
    obtain ⟨lnu, lfr, lun, lA, lc, ltab⟩ := q
    unfold cellsV Ver.sl at h2 h6 ⊢
    obtain ⟨k, hk⟩ : ∃ k, tab.length = k := ⟨_, rfl⟩
    obtain ⟨lk, hlk⟩ : ∃ lk, ltab.length = lk := ⟨_, rfl⟩
    simp only [hk, hlk] at h2 h6 ⊢
    have HK := Lib.hid hk
    have y0 : W.cell? ⟨Bx, 0, none⟩ = some (.int .i64 nu) := h6.cell 0
    have y1 : W.cell? ⟨Bx, 1, none⟩ = some (.int .i64 fr) := h6.cell 1
    have y2 : W.cell? ⟨Bx, 2, none⟩ = some (.int .i64 un) := h6.cell 2
    have y3 : W.cell? ⟨Bx, 3, none⟩ = some (.slice xA k xc) := h6.cell 3
    have u0 : W.cell? ⟨w.heap.size + 1, 0, none⟩ = some (.int .i64 lnu) := h2.cell 0
    have u1 : W.cell? ⟨w.heap.size + 1, 1, none⟩ = some (.int .i64 lfr) := h2.cell 1
    have u2 : W.cell? ⟨w.heap.size + 1, 2, none⟩ = some (.int .i64 lun) := h2.cell 2
    have u3 : W.cell? ⟨w.heap.size + 1, 3, none⟩ = some (.slice lA lk lc) := h2.cell 3
    have v0 := h2.free 0
    have v1 := h2.free 1
    have v2 := h2.free 2
    have v3 := h2.free 3
    have H1 := Lib.hid h1
    have H2 := Lib.hid h2
    have H4 := Lib.hid h4
    clear h1 h2 h4 h6 hk hlk hq
    gi_wp2
    refine ⟨(((KeepsOthers.setCell _ _ _).trans (KeepsOthers.setCell _ _ _)).trans ((KeepsOthers.setCell _ _ _).trans (KeepsOthers.setCell _ _ _))).from _, ?_, ?_, ?_, ?_⟩
    · exact (((((Below.refl w.heap.size W).setCell (p := ⟨w.heap.size + 1, 0, none⟩) (by simp) _).setCell (p := ⟨w.heap.size + 1, 1, none⟩) (by simp) _).setCell (p := ⟨w.heap.size + 1, 2, none⟩) (by simp) _).setCell (p := ⟨w.heap.size + 1, 3, none⟩) (by simp) _)
    · exact (((H1.out.away (by simp) _).away (by simp) _).away (by simp) _).away (by simp) _
    · rw [lastV_snoc]
      unfold cellsV Ver.sl
      simp only [HK.out]
      exact blk4 H2.out _ _ _ _
    · exact ((((H4.out).setCell (p := ⟨w.heap.size + 1, 0, none⟩) (by simp) _).setCell (p := ⟨w.heap.size + 1, 1, none⟩) (by simp) _).setCell (p := ⟨w.heap.size + 1, 2, none⟩) (by simp) _).setCell (p := ⟨w.heap.size + 1, 3, none⟩) (by simp) _
  case done =>
    rintro D ys W hD hS ⟨h1, h2, h4⟩ hK
    have hnum := lastV_num ys
    rw [hS] at hnum
    obtain ⟨q, hq⟩ : ∃ q : Ver, lastV ys = q := ⟨_, rfl⟩
    rw [hq] at h2 hnum
    obtain ⟨nu, fr, un, xA, xc, tab⟩ := q
    simp only at hnum
    unfold cellsV Ver.sl zeroV at h1
    unfold cellsV Ver.sl at h2
    obtain ⟨k, hk⟩ : ∃ k, tab.length = k := ⟨_, rfl⟩
    simp only [hk] at h2
    simp only [List.length_nil] at h1
    have u0 : W.cell? ⟨w.heap.size + 1, 0, none⟩ = some (.int .i64 nu) := h2.cell 0
    have u1 : W.cell? ⟨w.heap.size + 1, 1, none⟩ = some (.int .i64 fr) := h2.cell 1
    have u2 : W.cell? ⟨w.heap.size + 1, 2, none⟩ = some (.int .i64 un) := h2.cell 2
    have u3 : W.cell? ⟨w.heap.size + 1, 3, none⟩ = some (.slice xA k xc) := h2.cell 3
    have y0 : W.cell? ⟨w.heap.size, 0, none⟩ = some (.int .i64 0) := h1.cell 0
    have y1 : W.cell? ⟨w.heap.size, 1, none⟩ = some (.int .i64 0) := h1.cell 1
    have y2 : W.cell? ⟨w.heap.size, 2, none⟩ = some (.int .i64 0) := h1.cell 2
    have y3 : W.cell? ⟨w.heap.size, 3, none⟩ = some (.slice none 0 0) := h1.cell 3
    have v0 : W.frozen? ⟨w.heap.size, 0, none⟩ = false := h1.free 0
    have v1 : W.frozen? ⟨w.heap.size, 1, none⟩ = false := h1.free 1
    have v2 : W.frozen? ⟨w.heap.size, 2, none⟩ = false := h1.free 2
    have v3 : W.frozen? ⟨w.heap.size, 3, none⟩ = false := h1.free 3
    have hDS : w.heap.size < D := by have h3 := E0.out.lt; omega
    have H1 := Lib.hid h1
    have H4 := Lib.hid h4
    have HK := Lib.hid hK
    have HN := Lib.hid hnum
    have HDS := Lib.hid hDS
    clear h1 h2 h4 hK hS hnum hD hDS hq hk
    go_wp2_with fail
    go_region
    go_wp2_with fail
    have M1 := blk4 H1.out (.int .i64 nu) (.int .i64 fr) (.int .i64 un) (.slice xA k xc)
    have K2 : (((((W.setCell ⟨w.heap.size, 0, none⟩ (.int .i64 nu)).setCell ⟨w.heap.size, 1, none⟩ (.int .i64 fr)).setCell ⟨w.heap.size, 2, none⟩ (.int .i64 un)).setCell ⟨w.heap.size, 3, none⟩ (.slice xA k xc)).drew).heap[D]? = some (.deferred (some [])) := (((KeepsOthers.setCell _ _ _).trans (KeepsOthers.setCell _ _ _)).trans ((KeepsOthers.setCell _ _ _).trans (KeepsOthers.setCell _ _ _))).same D _ HK.out rfl
    have M2 : Below w.heap.size w ((((W.setCell ⟨w.heap.size, 0, none⟩ (.int .i64 nu)).setCell ⟨w.heap.size, 1, none⟩ (.int .i64 fr)).setCell ⟨w.heap.size, 2, none⟩ (.int .i64 un)).setCell ⟨w.heap.size, 3, none⟩ (.slice xA k xc)).drew := (((((H4.out).setCell (p := ⟨w.heap.size, 0, none⟩) (Nat.le_refl _) _).setCell (p := ⟨w.heap.size, 1, none⟩) (Nat.le_refl _) _).setCell (p := ⟨w.heap.size, 2, none⟩) (Nat.le_refl _) _).setCell (p := ⟨w.heap.size, 3, none⟩) (Nat.le_refl _) _).drew
    refine ⟨by simp, .inl ⟨_, _, rfl, run_takeDeferred K2, ?_⟩⟩
    have M3 := (World.putObj_heap_other (w := ((((W.setCell ⟨w.heap.size, 0, none⟩ (.int .i64 nu)).setCell ⟨w.heap.size, 1, none⟩ (.int .i64 fr)).setCell ⟨w.heap.size, 2, none⟩ (.int .i64 un)).setCell ⟨w.heap.size, 3, none⟩ (.slice xA k xc)).drew) (k := w.heap.size) (r := D) (o := .deferred none) (by have := HDS.out; omega)).trans M1
    exact ⟨_, results_cell_tmp' rfl _ _ w.heap.size 32 _ _ _ (by simp) M3 Try.underlying32 rfl size32, nu, fr, un, xA, k, xc, by simp, HN.out, M2.trans (belowK_b (w := w) (Nat.le_refl _) _ D _ _ (by have := HDS.out; omega) K2 rfl rfl)⟩
end Go.Proofs.Ytblnlmhkaacciaa
