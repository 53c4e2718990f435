/-
  The walk of All. No condition.
-/
import Derived.Test.YtblnlmhkaacciaaEach
namespace Go.Proofs.Ytblnlmhkaacciaa
open Go.ChangeShapes Go.WideShapes Go.ChangeAt Go.RowKit Go.Shelf
set_option linter.unusedVariables false
set_option linter.unusedSimpArgs false
attribute [local go_sem] Oper.semAt_some

/-- What a history tells, one that no call made too. -/
def Tells (w : World) (p : Option Addr) (L : List (Int × Int × Int × List Int)) : Prop :=
  (NoHist w (.pointer p) ∧ L = []) ∨ ∃ H B v vs last, p = some ⟨H, 0, none⟩ ∧ HistIs w H B v vs last ∧ vs.length ≤ 1000 ∧ L = sayV vs
theorem Tells.len {w : World} {p : Option Addr} {L : List (Int × Int × Int × List Int)} (h : Tells w p L) : L.length ≤ 1000 := by
  rcases h with ⟨_, rfl⟩ | ⟨H, B, v, vs, last, _, _, h, rfl⟩
  · simp
  · simpa [sayV] using h
theorem each_tells (n0 b1 : Nat) (p : Option Addr) (L : List (Int × Int × Int × List Int)) (we w : World) (hn0 : 1 ≤ n0) (hb : b1 < w.heap.size) (hc : w.cell? ⟨b1, 0, none⟩ = some (.pointer p)) (h : Tells we p L) (hwe : Below we.heap.size we w) :
    SeqR n0 Try.prog 27 #[.pointer (some ⟨b1, 0, none⟩)] encV (fun p W => p.lies W we.heap.size) we.heap.size (fun ys => sayV ys = L) L.length w := by
  rcases h with ⟨h, rfl⟩ | ⟨H, B, v, vs, last, rfl, h, hl, rfl⟩
  · intro l J W hW hJ hY h0
    refine (each_none n0 b1 we.heap.size _ w hn0 hb hc (h.later hwe) l J W hW hJ hY h0).mono ?_
    rintro e W' ⟨h1, xs, rfl, h2⟩
    exact ⟨h1, [], rfl, h2⟩
  · have := each_some n0 b1 H B v vs last we w hn0 hb hc h hwe hl
    rw [show (sayV vs).length = vs.length by simp [sayV]]
    exact this
theorem own_turn {W W' : World} {B e s n : Nat} {v : Value} {xs : List Value} {row : Option Nat} (h : W.ownsRow B e s v n xs) (hg : W.grownBy W' row) (hr : ∀ r, row = some r → ∃ o : Obj, W.heap[r]? = some o ∧ o.isCells = false) : W'.ownsRow B e s v n xs :=
  ⟨h.1, h.2.imp id fun ⟨g, cap, cur, h1, h2, h3, h4⟩ => ⟨g, cap, cur, h1, h2, blk_turn h3 hg hr, h4⟩⟩
theorem lies_turn {W W' : World} {B : Nat} {p : Ver} {row : Option Nat} (h : p.lies W B) (hg : W.grownBy W' row) (hr : ∀ r, row = some r → ∃ o : Obj, W.heap[r]? = some o ∧ o.isCells = false) : p.lies W' B :=
  ⟨own_turn h.1 hg hr, h.2⟩
theorem own_form {w : World} {B e s n : Nat} {v : Value} {xs : List Value} (h : w.ownsRow B e s v n xs) (hs : 0 < s) (hn : xs.length = n * s) : ∃ A c, v = .slice A n c := by
  rcases h.2 with ⟨rfl, h0⟩ | ⟨g, cap, cur, rfl, _⟩
  · exact ⟨none, 0, by subst h0; rfl⟩
  · exact ⟨_, _, rfl⟩
theorem one4 {a b c : Int} {A : Option Addr} {n m : Nat} : ∀ u ∈ [Value.int .i64 a, .int .i64 b, .int .i64 c, .slice A n m], u.oneCell' = true := by
  intro u hu
  simp at hu
  rcases hu with rfl | rfl | rfl | rfl <;> rfl
/-- What holds between two rounds. -/
def AllI (w : World) (pre : List Ver) (W : World) : Prop :=
  (∃ v, Blk W w.heap.size 25 #[v] ∧ W.ownsRow w.heap.size 32 4 v pre.length (flatV pre)) ∧ (∀ p ∈ pre, p.lies W w.heap.size) ∧ Below w.heap.size w W ∧ w.heap.size < W.heap.size
theorem AllI.own {w : World} {N : Nat} (hN : w.heap.size ≤ N) : OwnFrom N (AllI w) := by
  rintro pre W W' row ⟨⟨v, h1, h2⟩, h3, h4, h5⟩ hg hr
  exact ⟨⟨v, blk_turn h1 hg (fun r e => (hr r e).2), own_turn h2 hg (fun r e => (hr r e).2)⟩, fun p hp => lies_turn (h3 p hp) hg (fun r e => (hr r e).2), below_turn h4 hg hN h4.size hr, Nat.lt_of_lt_of_le h5 hg.size⟩
/-- A round has put one more. -/
theorem AllI.step {w W w1 : World} {pre : List Ver} {x : Ver} {o : Obj} {v v' : Value} {m N : Nat} (hm : pre.length = m) (h1 : Blk W w.heap.size 25 #[v]) (h2 : W.ownsRow w.heap.size 32 4 v m (flatV pre)) (h3 : ∀ p ∈ pre, p.lies W w.heap.size) (h4 : Below w.heap.size w W) (h5 : w.heap.size < W.heap.size) (hx : x.lies W w.heap.size)
    (hown : w1.ownsRow w.heap.size 32 4 v' (m + 1) (flatV pre ++ x.val)) (hgrow : (W.alloc o).grownBy w1 v.ownBlock) :
    Blk w1 w.heap.size 25 #[v] ∧ KeepsFrom N W (w1.setCell ⟨w.heap.size, 0, none⟩ v') ∧ Below w.heap.size W (w1.setCell ⟨w.heap.size, 0, none⟩ v') ∧ AllI w (pre ++ [x]) (w1.setCell ⟨w.heap.size, 0, none⟩ v') := by
  subst hm
  have hga := World.grownBy_alloc W o none
  have r2 : (W.alloc o).ownsRow w.heap.size 32 4 v pre.length (flatV pre) := own_turn h2 hga (fun r e => by cases e)
  have hrow : ∀ k, v.ownBlock = some k → ∃ cs, Blk (W.alloc o) k 32 cs := fun k e => own_blk r2 e
  have hkeep : ∀ k t cs, Blk W k t cs → t ≠ 32 → Blk w1 k t cs := fun k t cs hb ht => by
    have hb2 := hb.more o
    refine (hgrow.block k hb2.lt (fun e => ?_)).trans hb2
    obtain ⟨ds, hd⟩ := hrow k e.symm
    exact (hb2.differ hd ht) rfl
  have k1 := hkeep _ _ _ h1 (by decide)
  have hlie : ∀ q : Ver, q.lies W w.heap.size → q.lies w1 w.heap.size := fun q hq => ⟨⟨hq.1.1, hq.1.2.imp id fun ⟨g, cap, cur, e1, e2, e3, e4⟩ => ⟨g, cap, cur, e1, e2, hkeep _ _ _ e3 (by decide), e4⟩⟩, hq.2⟩
  have hput : ∀ q : Ver, q.lies w1 w.heap.size → q.lies (w1.setCell ⟨w.heap.size, 0, none⟩ v') w.heap.size := fun q hq => ⟨own_away hq.1 _ _ (fun e => by
    obtain ⟨cs, hc⟩ := own_blk hq.1 e
    exact (hc.differ k1 (by decide)) rfl), hq.2⟩
  have hsz : W.heap.size ≤ (W.alloc o).heap.size := by simp
  have hbl : Below w.heap.size W w1 := ((Below.refl w.heap.size W).alloc (by omega) o).grown hgrow (by omega) (fun k e => (r2.lt k e).1)
  refine ⟨k1, ?_, hbl.setCell (by exact Nat.le_refl _) _, ⟨v', k1.put 0 _ rfl, ?_⟩, ?_, (h4.trans hbl).setCell (by exact Nat.le_refl _) _, ?_⟩
  · refine (((KeepsOthers.alloc W o).trans (KeepsOthers.of_grownBy hgrow (fun j u e hu => ?_))).trans (KeepsOthers.setCell _ _ _)).from _
    obtain ⟨cs, hc⟩ := hrow j e
    unfold Blk at hc
    rw [hc] at hu
    injection hu with hu
    rw [← hu]; rfl
  · have h9 := own_away hown ⟨w.heap.size, 0, none⟩ v' (fun e => by
      obtain ⟨cs, hc⟩ := own_blk hown e
      exact (hc.differ k1 (by decide)) rfl)
    rw [List.length_append, flatV_append, flatV_single]
    exact h9
  · intro q hq
    rcases List.mem_append.1 hq with hq | hq
    · exact hput q (hlie q (h3 q hq))
    · rw [List.mem_singleton.1 hq]; exact hput x (hlie x hx)
  · have := hgrow.size
    simp [World.setCell] at *
    omega
set_option maxRecDepth 100000 in
set_option maxHeartbeats 3200000 in
theorem all_any (p : Option Addr) (L : List (Int × Int × Int × List Int)) (w : World) (h : Tells w p L) :
    Calls Try.prog 8 #[.pointer p] w fun e w' => ∃ v qs, e = .returned v ∧ w'.ownsRow w.heap.size 32 4 v qs.length (flatV qs) ∧ sayV qs = L ∧ (∀ q ∈ qs, q.lies w' w.heap.size) ∧ Below w.heap.size w w' := by
  obtain ⟨i0, hi, hz0, hz1, hz2⟩ := info_parts info32
  have HZ := Lib.hid (And.intro hi (And.intro hz0 (And.intro hz1 hz2)))
  have HL := Lib.hid h.len
  have HT := Lib.hid h
  clear h hi hz0 hz1 hz2
  refine (callsIn_wide (n := 4)).1 ?_
  refine callsIn_of_wp_marks Try.func8 rfl trivial ?_ rfl
  simp only [Try.ntmps8, List.size_toArray, List.length_cons, List.length_nil, Nat.reduceAdd, Nat.reduceSub, Array.replicate_succ, Array.replicate_zero, List.push_toArray, List.append_toArray, List.nil_append, List.cons_append]
  refine (wpIn_wide).2 ?_
  go_wp2_with fail
  refine (each_any _ _).mono ?_; rintro e w' ⟨rfl, rfl⟩
  go_wp2_with fail
  have B0 : Below w.heap.size w ((w.alloc (.cells #[.slice none 0 0] 25)).alloc (.cells #[.pointer p] 23)) := ((Below.refl _ _).alloc (Nat.le_refl _) _).alloc (by simp) _
  have E0 : Hid (Blk ((w.alloc (.cells #[.slice none 0 0] 25)).alloc (.cells #[.pointer p] 23)) w.heap.size 25 #[.slice none 0 0]) := (Blk.new w 25 _).more _
  have E1 : Hid (Blk ((w.alloc (.cells #[.slice none 0 0] 25)).alloc (.cells #[.pointer p] 23)) (w.heap.size + 1) 23 #[.pointer p]) := Blk.newAt _ 23 _ _ (by simp)
  obtain ⟨wc, hwc⟩ : ∃ wc, (w.alloc (.cells #[.slice none 0 0] 25)).alloc (.cells #[.pointer p] 23) = wc := ⟨_, rfl⟩
  rw [hwc] at B0 E0 E1 ⊢
  have HB := Lib.hid B0
  clear hwc B0
  refine (wpIn_wide (n := 4)).1 ?_
  refine range_ready (by omega) (gf := 27) (lb := #[.pointer (some ⟨w.heap.size + 1, 0, none⟩)]) rfl (enters_of Try.func27 (by kernel_rfl) rfl) HB.out.size
    (each_tells 3 (w.heap.size + 1) p L w wc (by omega) E1.out.lt ((E1.out.cell 0).trans rfl) HT.out HB.out) (fun _ => rfl)
    (AllI w) (AllI.own HB.out.size) ⟨⟨_, E0.out, World.ownsRow_nil _ _ _ _⟩, by simp, HB.out, E0.out.lt⟩
    (fun x a' W => ∃ Bx, a' = { tmps := #[.pointer p, undef, .slice none 0 0, .pointer (some ⟨w.heap.size, 0, none⟩), .pointer (some ⟨Bx, 0, none⟩), .pointer p, .func (.func 27) #[] #[.pointer (some ⟨w.heap.size + 1, 0, none⟩)], .agg #[.int .i64 x.num, .int .i64 x.frm, .int .i64 x.unt, x.sl], undef, undef, undef, undef, undef], defers := [] } ∧ Blk W Bx 32 #[.int .i64 x.num, .int .i64 x.frm, .int .i64 x.unt, x.sl] ∧ x.lies W w.heap.size) ?hAx ?assign ?body ?done
  case hAx =>
    rintro x a' u W W' row ⟨Bx, h1, h2, h3⟩ hg hr
    exact ⟨Bx, h1, blk_turn h2 hg (fun r e => (hr r e).2), lies_turn h3 hg (fun r e => (hr r e).2)⟩
  case assign =>
    rintro l pre x W KK hI hR hKK
    obtain ⟨nu, fr, un, xA, xc, tab⟩ := x
    have HII := Lib.hid hI
    have HRR := Lib.hid hR
    have HKK := Lib.hid hKK
    unfold encV Ver.sl
    obtain ⟨k, hk⟩ : ∃ k, tab.length = k := ⟨_, rfl⟩
    have HK := Lib.hid hk
    simp only [hk]
    clear hI hR hKK hk
    gi_wp2
    have hba : Below W.heap.size W (W.alloc (.cells #[.int .i64 nu, .int .i64 fr, .int .i64 un, .slice xA k xc] 32)) := (Below.refl _ _).alloc (Nat.le_refl _) _
    have hga := World.grownBy_alloc W (.cells #[.int .i64 nu, .int .i64 fr, .int .i64 un, .slice xA k xc] 32) none
    refine HKK.out _ _ ((KeepsOthers.alloc _ _).from _) ((Below.refl _ _).alloc HII.out.2.2.1.size _) (AllI.own (Nat.le_refl _) pre W _ none HII.out hga (fun r e => by cases e)) ⟨W.heap.size, ?_, ?_, lies_turn HRR.out hga (fun r e => by cases e)⟩
    · unfold Ver.sl
      simp only [HK.out]
    · unfold Ver.sl
      simp only [HK.out]
      exact Blk.new _ _ _
  case body =>
    rintro l pre x a' W ⟨⟨v, h1, h2⟩, h3, h4, h5⟩ ⟨Bx, rfl, h6, h7⟩ hlt
    obtain ⟨nu, fr, un, xA, xc, tab⟩ := x
    have H7 := Lib.hid h7
    unfold Ver.sl at h6 ⊢
    obtain ⟨k, hk⟩ : ∃ k, tab.length = k := ⟨_, rfl⟩
    have HK := Lib.hid hk
    simp only [hk] at h6 ⊢
    obtain ⟨vA, vc, rfl⟩ := own_form h2 (by decide) (flatV_len pre)
    have c1 : W.cell? ⟨w.heap.size, 0, none⟩ = some (.slice vA pre.length vc) := h1.cell 0
    have y0 : W.cell? ⟨Bx, 0, none⟩ = some (.int .i64 nu) := h6.cell 0
    have y1 : W.cell? ⟨Bx, 1, none⟩ = some (.int .i64 fr) := h6.cell 1
    have y2 : W.cell? ⟨Bx, 2, none⟩ = some (.int .i64 un) := h6.cell 2
    have y3 : W.cell? ⟨Bx, 3, none⟩ = some (.slice xA k xc) := h6.cell 3
    obtain ⟨m, hm⟩ : ∃ m, pre.length = m := ⟨_, rfl⟩
    have HM := Lib.hid hm
    rw [hm] at c1 h1 h2 hlt
    have hL := HL.out
    have b63 : Hid (m + 1 ≤ maxLen) := by unfold Hid maxLen; omega
    have b47 : Hid ((m + 1) * 48 ≤ 140737488355328) := by unfold Hid; omega
    have hga := World.grownBy_alloc W (.cells #[.int .i64 nu, .int .i64 fr, .int .i64 un, .slice xA k xc] 32) none
    have R1 := Lib.hid (own_turn h2 hga (fun r e => by cases e))
    have K1 := Lib.hid (h1.more (.cells #[.int .i64 nu, .int .i64 fr, .int .i64 un, .slice xA k xc] 32))
    have BB : Hid (w.heap.size ≤ (W.alloc (.cells #[.int .i64 nu, .int .i64 fr, .int .i64 un, .slice xA k xc] 32)).heap.size) := by unfold Hid; simp; omega
    have HV : (⟨nu, fr, un, xA, xc, tab⟩ : Ver).val = [.int .i64 nu, .int .i64 fr, .int .i64 un, .slice xA k xc] := by
      unfold Ver.val Ver.sl
      rw [hk]
    have HST : Hid (∀ (w1 : World) (v' : Value), w1.ownsRow w.heap.size 32 4 v' (m + 1) (flatV pre ++ [.int .i64 nu, .int .i64 fr, .int .i64 un, .slice xA k xc]) → (W.alloc (.cells #[.int .i64 nu, .int .i64 fr, .int .i64 un, .slice xA k xc] 32)).grownBy w1 (Value.slice vA m vc).ownBlock →
        Blk w1 w.heap.size 25 #[.slice vA m vc] ∧ KeepsFrom wc.heap.size W (w1.setCell ⟨w.heap.size, 0, none⟩ v') ∧ Below w.heap.size W (w1.setCell ⟨w.heap.size, 0, none⟩ v') ∧ AllI w (pre ++ [⟨nu, fr, un, xA, xc, tab⟩]) (w1.setCell ⟨w.heap.size, 0, none⟩ v')) := fun w1 v' hown hgrow =>
      AllI.step HM.out h1 h2 h3 h4 h5 h7 (by rw [HV]; exact hown) hgrow
    clear h1 h2 h3 h4 h5 h6 h7 hk hm hga hL HV H7 K1 HM
    gi_wp2_with (first
      | (gi_at_builtin; refine wpListIn_append_own _ rfl _ _ 25 rfl w.heap.size 32 i0 _ 4 48 Try.underlying25 HZ.out.1 HZ.out.2.1 HZ.out.2.2.1 HZ.out.2.2.2 rfl (by decide) (.slice vA m vc) m (flatV pre) rfl R1.out ⟨W.heap.size, 0, none⟩ 1 1 [.int .i64 nu, .int .i64 fr, .int .i64 un, .slice xA k xc] rfl rfl cells4 one4 b63.out b47.out BB.out ?_; intro v' w1 hown hgrow _; obtain ⟨s1, s2⟩ := HST.out w1 v' hown hgrow; obtain ⟨A', c', rfl⟩ := own_form hown (by decide) hown.1; have z1 : w1.cell? ⟨w.heap.size, 0, none⟩ = some (.slice vA m vc) := s1.cell 0; have zf := s1.free 0; have S2 := Lib.hid s2; clear s1 s2 hown hgrow)
      | fail)
    exact S2.out
  case done =>
    rintro D ys W hD hS ⟨⟨v, h1, h2⟩, h3, h4, h5⟩ hK
    obtain ⟨vA, vc, rfl⟩ := own_form h2 (by decide) (flatV_len ys)
    have c1 : W.cell? ⟨w.heap.size, 0, none⟩ = some (.slice vA ys.length vc) := h1.cell 0
    have H2 := Lib.hid h2
    have H3 := Lib.hid h3
    have H4 := Lib.hid h4
    have HS := Lib.hid hS
    have HK := Lib.hid hK
    have HD : Hid (w.heap.size ≤ D) := Nat.le_trans HB.out.size hD
    clear h1 h2 h3 h4 h5 hS hK hD
    go_wp2_with fail
    refine ⟨by simp, .inl ⟨_, _, rfl, run_takeDeferred HK.out, ?_⟩⟩
    have hg := grownBy_putObj' W D (.deferred none)
    have hr : ∀ r, some D = some r → ∃ o : Obj, W.heap[r]? = some o ∧ o.isCells = false := fun r e => by cases e; exact ⟨_, HK.out, rfl⟩
    exact ⟨_, results_tmp rfl _ _ _, _, ys, rfl, own_turn H2.out hg hr, HS.out, fun q hq => lies_turn (H3.out q hq) hg hr, H4.out.trans (belowK_b (w := w) (Nat.le_refl _) W D _ _ HD.out HK.out rfl rfl)⟩
end Go.Proofs.Ytblnlmhkaacciaa
