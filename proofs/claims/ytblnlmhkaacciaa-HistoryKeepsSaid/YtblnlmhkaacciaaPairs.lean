/-
  The walk of Pairs. No condition.
-/
import Derived.Test.YtblnlmhkaacciaaNewest
namespace Go.Proofs.Ytblnlmhkaacciaa
open Go.ChangeShapes Go.WideShapes Go.ChangeAt Go.RowKit Go.Shelf
set_option linter.unusedVariables false
set_option linter.unusedSimpArgs false
attribute [local go_sem] Oper.semAt_some

def flat2 (l : List (Int × Int)) : List Value := l.flatMap (fun p => [.int .i64 p.1, .int .i64 p.2])
theorem flat2_len (l : List (Int × Int)) : (flat2 l).length = l.length * 2 := by
  induction l with
  | nil => rfl
  | cons p t ih => simp [flat2] at *; omega
theorem flat2_append (a b : List (Int × Int)) : flat2 (a ++ b) = flat2 a ++ flat2 b := by simp [flat2]
theorem flat2_at : ∀ (l : List (Int × Int)) (i : Nat) (h : i < l.length), (flat2 l)[i * 2]? = some (.int .i64 (l[i]).1) ∧ (flat2 l)[i * 2 + 1]? = some (.int .i64 (l[i]).2)
  | p :: t, 0, _ => ⟨rfl, rfl⟩
  | p :: t, i + 1, h => by
    have r := flat2_at t i (by simpa using h)
    have e : flat2 (p :: t) = .int .i64 p.1 :: .int .i64 p.2 :: flat2 t := rfl
    rw [e, show (i + 1) * 2 = i * 2 + 1 + 1 by omega, show i * 2 + 1 + 1 + 1 = (i * 2 + 1) + 1 + 1 by omega]
    exact r
theorem info48 : (Try.prog.info? 48).map (fun i => (i.zero, i.size, i.bytes)) = some (some (.agg #[.int .i64 0, .int .i64 0]), 2, 16) := by kernel_rfl
theorem cells2 {w : World} {t : TypeId} {x y : Value} : ∀ j u, [x, y][j]? = some u → (w.alloc (.cells #[x, y] t)).cell? ((⟨w.heap.size, 0, none⟩ : Addr).add j) = some u := by
  intro j u hj
  have h : Blk (w.alloc (.cells #[x, y] t)) w.heap.size t #[x, y] := Blk.new _ _ _
  rw [Addr.add_mid, Nat.zero_add, h.cell]
  simpa using hj
theorem one2 {a b : Int} : ∀ u ∈ [Value.int .i64 a, .int .i64 b], u.oneCell' = true := by
  intro u hu
  simp at hu
  rcases hu with rfl | rfl <;> rfl
/-- The two backends of each, for a hash. -/
def pairsL (L : List (Int × Int × Int × List Int)) (u : Nat) : List (Int × Int) := L.map (fun x => twoL x.2.2.2 u)
/-- What holds between two rounds. -/
def PairI (w : World) (u : Nat) (pre : List Ver) (W : World) : Prop :=
  Blk W w.heap.size 37 #[.int .u64 (u : Int)] ∧ (∃ v, Blk W (w.heap.size + 1) 44 #[v] ∧ W.ownsRow w.heap.size 48 2 v pre.length (flat2 (pairsL (sayV pre) u))) ∧ Below w.heap.size w W ∧ w.heap.size + 1 < W.heap.size
theorem PairI.own {w : World} {u N : Nat} (hN : w.heap.size ≤ N) : OwnFrom N (PairI w u) := by
  rintro pre W W' row ⟨h0, ⟨v, h1, h2⟩, h4, h5⟩ hg hr
  exact ⟨blk_turn h0 hg (fun r e => (hr r e).2), ⟨v, blk_turn h1 hg (fun r e => (hr r e).2), own_turn h2 hg (fun r e => (hr r e).2)⟩, below_turn h4 hg hN h4.size hr, Nat.lt_of_lt_of_le h5 hg.size⟩
/-- A round has put one more. -/
theorem PairI.step {w W W3 w1 : World} {u : Nat} {pre : List Ver} {x : Ver} {o : Obj} {v v' : Value} {m N : Nat} {a b : Int} (hm : pre.length = m) (hI0 : Blk W w.heap.size 37 #[.int .u64 (u : Int)]) (h1 : Blk W (w.heap.size + 1) 44 #[v]) (h2 : W.ownsRow w.heap.size 48 2 v m (flat2 (pairsL (sayV pre) u))) (h4 : Below w.heap.size w W) (h5 : w.heap.size + 1 < W.heap.size)
    (hb : Below W.heap.size W W3) (ha : twoL x.tab u = (a, b))
    (hown : w1.ownsRow w.heap.size 48 2 v' (m + 1) (flat2 (pairsL (sayV pre) u) ++ [.int .i64 a, .int .i64 b])) (hgrow : (W3.alloc o).grownBy w1 v.ownBlock) (hko : KeepsOthers W W3) :
    Blk w1 (w.heap.size + 1) 44 #[v] ∧ KeepsFrom N W (w1.setCell ⟨w.heap.size + 1, 0, none⟩ v') ∧ Below w.heap.size W (w1.setCell ⟨w.heap.size + 1, 0, none⟩ v') ∧ PairI w u (pre ++ [x]) (w1.setCell ⟨w.heap.size + 1, 0, none⟩ v') := by
  subst hm
  have hba : Below W.heap.size W (W3.alloc o) := hb.alloc hb.size _
  have r2 := own_later h2 hba
  have hrow : ∀ k, v.ownBlock = some k → ∃ cs, Blk (W3.alloc o) k 48 cs := fun k e => own_blk r2 e
  have hkeep : ∀ k t cs, Blk W k t cs → t ≠ 48 → Blk w1 k t cs := fun k t cs hbk ht => by
    have hb2 := hbk.below hba hbk.lt
    refine (hgrow.block k hb2.lt (fun e => ?_)).trans hb2
    obtain ⟨ds, hd⟩ := hrow k e.symm
    exact (hb2.differ hd ht) rfl
  have k0 := hkeep _ _ _ hI0 (by decide)
  have k1 := hkeep _ _ _ h1 (by decide)
  have hbl : Below w.heap.size W w1 := (hba.mono (by omega)).grown hgrow (by have := hba.size; omega) (fun k e => (r2.lt k e).1)
  refine ⟨k1, ?_, hbl.setCell (by simp) _, k0.away (by simp) _, ⟨v', k1.put 0 _ rfl, ?_⟩, (h4.trans hbl).setCell (by simp) _, ?_⟩
  · refine (((hko.trans (KeepsOthers.alloc W3 o)).trans (KeepsOthers.of_grownBy hgrow (fun j q e hu => ?_))).trans (KeepsOthers.setCell _ _ _)).from _
    obtain ⟨cs, hc⟩ := hrow j e
    unfold Blk at hc
    rw [hc] at hu
    injection hu with hu
    rw [← hu]; rfl
  · have h9 := own_away hown ⟨w.heap.size + 1, 0, none⟩ v' (fun e => by
      obtain ⟨cs, hc⟩ := own_blk hown e
      exact (hc.differ k1 (by decide)) rfl)
    have e2 : flat2 (pairsL (sayV (pre ++ [x])) u) = flat2 (pairsL (sayV pre) u) ++ [.int .i64 a, .int .i64 b] := by
      unfold sayV pairsL
      rw [List.map_append, List.map_append, flat2_append]
      simp [flat2, Ver.says, ha]
    rw [List.length_append, e2]
    exact h9
  · have := hgrow.size
    have := hba.size
    simp [World.setCell]
    omega
theorem others_of_below {W W3 : World} (h : Below W.heap.size W W3) : KeepsOthers W W3 := ⟨h.size, fun k o hk _ => (h.block k (Array.getElem?_eq_some_iff.1 hk).1).trans hk⟩
set_option maxRecDepth 100000 in
set_option maxHeartbeats 3200000 in
theorem pairs_any (p : Option Addr) (u : Nat) (L : List (Int × Int × Int × List Int)) (w : World) (h : Tells w p L) (hu : u < 18446744073709551616) :
    Calls Try.prog 14 #[.pointer p, .int .u64 (u : Int)] w fun e w' => ∃ v, e = .returned v ∧ w'.ownsRow w.heap.size 48 2 v L.length (flat2 (pairsL L u)) ∧ Below w.heap.size w w' := by
  obtain ⟨i0, hi, hz0, hz1, hz2⟩ := info_parts info48
  have HZ := Lib.hid (And.intro hi (And.intro hz0 (And.intro hz1 hz2)))
  have HL := Lib.hid h.len
  have HT := Lib.hid h
  clear h hi hz0 hz1 hz2
  refine (callsIn_wide (n := 4)).1 ?_
  refine callsIn_of_wp_marks Try.func14 rfl trivial ?_ rfl
  simp only [Try.ntmps14, List.size_toArray, List.length_cons, List.length_nil, Nat.reduceAdd, Nat.reduceSub, Array.replicate_succ, Array.replicate_zero, List.push_toArray, List.append_toArray, List.nil_append, List.cons_append]
  refine (wpIn_wide).2 ?_
  go_wp2_with fail
  refine (each_any _ _).mono ?_; rintro e w' ⟨rfl, rfl⟩
  go_wp2_with fail
  have B0 : Below w.heap.size w (((w.alloc (.cells #[.int .u64 (u : Int)] 37)).alloc (.cells #[.slice none 0 0] 44)).alloc (.cells #[.pointer p] 23)) := (((Below.refl _ _).alloc (Nat.le_refl _) _).alloc (by simp) _).alloc (by simp; omega) _
  have E0 : Hid (Blk (((w.alloc (.cells #[.int .u64 (u : Int)] 37)).alloc (.cells #[.slice none 0 0] 44)).alloc (.cells #[.pointer p] 23)) w.heap.size 37 #[.int .u64 (u : Int)]) := ((Blk.new w 37 _).more _).more _
  have E1 : Hid (Blk (((w.alloc (.cells #[.int .u64 (u : Int)] 37)).alloc (.cells #[.slice none 0 0] 44)).alloc (.cells #[.pointer p] 23)) (w.heap.size + 1) 44 #[.slice none 0 0]) := (Blk.newAt _ 44 _ _ (by simp)).more _
  have E2 : Hid (Blk (((w.alloc (.cells #[.int .u64 (u : Int)] 37)).alloc (.cells #[.slice none 0 0] 44)).alloc (.cells #[.pointer p] 23)) (w.heap.size + 1 + 1) 23 #[.pointer p]) := Blk.newAt _ 23 _ _ (by simp)
  obtain ⟨wc, hwc⟩ : ∃ wc, (((w.alloc (.cells #[.int .u64 (u : Int)] 37)).alloc (.cells #[.slice none 0 0] 44)).alloc (.cells #[.pointer p] 23)) = wc := ⟨_, rfl⟩
  rw [hwc] at B0 E0 E1 E2 ⊢
  have HB := Lib.hid B0
  clear hwc B0
  refine (wpIn_wide (n := 4)).1 ?_
  refine range_ready (by omega) (gf := 27) (lb := #[.pointer (some ⟨w.heap.size + 1 + 1, 0, none⟩)]) rfl (enters_of Try.func27 (by kernel_rfl) rfl) HB.out.size
    (each_tells 3 (w.heap.size + 1 + 1) p L w wc (by omega) E2.out.lt ((E2.out.cell 0).trans rfl) HT.out HB.out) (fun _ => rfl)
    (PairI w u) (PairI.own HB.out.size) ⟨E0.out, ⟨_, E1.out, World.ownsRow_nil _ _ _ _⟩, HB.out, E1.out.lt⟩
    (fun x a' W => ∃ Bx, a' = { tmps := #[.pointer p, .int .u64 (u : Int), undef, .pointer (some ⟨w.heap.size, 0, none⟩), .slice none 0 0, .pointer (some ⟨w.heap.size + 1, 0, none⟩), .pointer (some ⟨Bx, 0, none⟩), undef, undef, .pointer p, .func (.func 27) #[] #[.pointer (some ⟨w.heap.size + 1 + 1, 0, none⟩)], .agg (cellsV x), undef, undef, undef, undef, undef, undef, undef, undef, undef, undef, undef, undef, undef, undef], defers := [] } ∧ Blk W Bx 32 (cellsV x) ∧ x.lies W w.heap.size) ?hAx ?assign ?body ?done
  case hAx =>
    rintro x a' u W W' row ⟨Bx, h1, h2, h3⟩ hg hr
    exact ⟨Bx, h1, blk_turn h2 hg (fun r e => (hr r e).2), lies_turn h3 hg (fun r e => (hr r e).2)⟩
  case assign =>
    rintro l pre x W KK hI hR hKK
    obtain ⟨nu, fr, un, xA, xc, tab⟩ := x
    have HII := Lib.hid hI
    have HRR := Lib.hid hR
    have HKK := Lib.hid hKK
    unfold encV Ver.sl
    obtain ⟨k, hk⟩ : ∃ k, tab.length = k := ⟨_, rfl⟩
    have HK := Lib.hid hk
    simp only [hk]
    clear hI hR hKK hk
    gi_wp2
    have hga := World.grownBy_alloc W (.cells #[.int .i64 nu, .int .i64 fr, .int .i64 un, .slice xA k xc] 32) none
    refine HKK.out _ _ ((KeepsOthers.alloc _ _).from _) ((Below.refl _ _).alloc HII.out.2.2.1.size _) (PairI.own (Nat.le_refl _) pre W _ none HII.out hga (fun r e => by cases e)) ⟨W.heap.size, ?_, ?_, lies_turn HRR.out hga (fun r e => by cases e)⟩
    · unfold cellsV Ver.sl
      simp only [HK.out]
    · unfold cellsV Ver.sl
      simp only [HK.out]
      exact Blk.new _ _ _
  case body =>
    rintro l pre x a' W ⟨h0, ⟨v, h1, h2⟩, h4, h5⟩ ⟨Bx, rfl, h6, h7⟩ hlt
    obtain ⟨nu, fr, un, xA, xc, tab⟩ := x
    unfold cellsV Ver.sl at h6 ⊢
    obtain ⟨k, hk⟩ : ∃ k, tab.length = k := ⟨_, rfl⟩
    simp only [hk] at h6 ⊢
    obtain ⟨vA, vc, rfl⟩ := own_form h2 (by decide) (by rw [flat2_len]; simp [pairsL, sayV])
    obtain ⟨m, hm⟩ : ∃ m, pre.length = m := ⟨_, rfl⟩
    have HM := Lib.hid hm
    rw [hm] at h1 h2 hlt
    have c0 : W.cell? ⟨w.heap.size, 0, none⟩ = some (.int .u64 (u : Int)) := h0.cell 0
    have y3 : W.cell? ⟨Bx, 3, none⟩ = some (.slice xA k xc) := h6.cell 3
    have hL := HL.out
    have b63 : Hid (m + 1 ≤ maxLen) := by unfold Hid maxLen; omega
    have b47 : Hid ((m + 1) * 16 ≤ 140737488355328) := by unfold Hid; omega
    have HTW := Lib.hid (two_any xA k xc u tab W h7.1.row hk (by have := h7.2; rw [← hk]; (have h8 : tab.length * 8 ≤ 140737488355328 := this); omega) hu)
    obtain ⟨a, b, hab⟩ : ∃ a b, twoL tab u = (a, b) := ⟨_, _, rfl⟩
    rw [hab] at HTW
    have HST : Hid (∀ (W3 w1 : World) (v' : Value), Below W.heap.size W W3 → w1.ownsRow w.heap.size 48 2 v' (m + 1) (flat2 (pairsL (sayV pre) u) ++ [.int .i64 a, .int .i64 b]) → (W3.alloc (.cells #[.int .i64 a, .int .i64 b] 48)).grownBy w1 (Value.slice vA m vc).ownBlock →
        Blk w1 (w.heap.size + 1) 44 #[.slice vA m vc] ∧ KeepsFrom wc.heap.size W (w1.setCell ⟨w.heap.size + 1, 0, none⟩ v') ∧ Below w.heap.size W (w1.setCell ⟨w.heap.size + 1, 0, none⟩ v') ∧ PairI w u (pre ++ [⟨nu, fr, un, xA, xc, tab⟩]) (w1.setCell ⟨w.heap.size + 1, 0, none⟩ v')) := fun W3 w1 v' hb hown hgrow =>
      PairI.step HM.out h0 h1 h2 h4 h5 hb hab hown hgrow (others_of_below hb)
    have HPRE : Hid (∀ W3 : World, Below W.heap.size W W3 → W3.cell? ⟨w.heap.size + 1, 0, none⟩ = some (.slice vA m vc) ∧ (W3.alloc (.cells #[.int .i64 a, .int .i64 b] 48)).ownsRow w.heap.size 48 2 (.slice vA m vc) m (flat2 (pairsL (sayV pre) u)) ∧ w.heap.size ≤ (W3.alloc (.cells #[.int .i64 a, .int .i64 b] 48)).heap.size) := fun W3 hb =>
      ⟨((h1.below hb h1.lt).cell 0).trans rfl, own_later h2 (hb.alloc hb.size _), by have := hb.size; simp; omega⟩
    clear h0 h1 h2 h4 h5 h6 h7 hk hm hL hab HM
    gi_wp2_with (first
      | (refine And.intro trivial ?_; gi_at_call 23; refine (CallsIn.inRound l (callsIn_wide.2 HTW.out)).mono ?_; rintro e W3 ⟨rfl, hb3⟩; obtain ⟨q1, q2, q3⟩ := HPRE.out W3 hb3; have Q2 := Lib.hid q2; have Q3 := Lib.hid q3; have HB3 := Lib.hid hb3; clear q2 q3 hb3)
      | (gi_at_builtin; refine wpListIn_append_own _ rfl _ _ 44 rfl w.heap.size 48 i0 _ 2 16 Try.underlying44 HZ.out.1 HZ.out.2.1 HZ.out.2.2.1 HZ.out.2.2.2 rfl (by decide) (.slice vA m vc) m (flat2 (pairsL (sayV pre) u)) rfl Q2.out ⟨W3.heap.size, 0, none⟩ 1 1 [.int .i64 a, .int .i64 b] rfl rfl cells2 one2 b63.out b47.out Q3.out ?_; intro v' w1 hown hgrow _; obtain ⟨s1, s2⟩ := HST.out W3 w1 v' HB3.out hown hgrow; obtain ⟨A', c', rfl⟩ := own_form hown (by decide) hown.1; have z1 : w1.cell? ⟨w.heap.size + 1, 0, none⟩ = some (.slice vA m vc) := s1.cell 0; have zf := s1.free 0; have S2 := Lib.hid s2; clear s1 s2 hown hgrow)
      | fail)
    exact S2.out
  case done =>
    rintro D ys W hD hS ⟨h0, ⟨v, h1, h2⟩, h4, h5⟩ hK
    have hl : ys.length = L.length := by rw [← hS]; simp [sayV]
    rw [hS, hl] at h2
    obtain ⟨vA, vc, rfl⟩ := own_form h2 (by decide) (by rw [flat2_len]; simp [pairsL])
    have c1 : W.cell? ⟨w.heap.size + 1, 0, none⟩ = some (.slice vA L.length vc) := h1.cell 0
    have H2 := Lib.hid h2
    have H4 := Lib.hid h4
    have HK := Lib.hid hK
    have HD : Hid (w.heap.size ≤ D) := Nat.le_trans HB.out.size hD
    clear h0 h1 h2 h4 h5 hS hK hD hl
    go_wp2_with fail
    refine ⟨by simp, .inl ⟨_, _, rfl, run_takeDeferred HK.out, ?_⟩⟩
    have hg := grownBy_putObj' W D (.deferred none)
    have hr : ∀ r, some D = some r → ∃ o : Obj, W.heap[r]? = some o ∧ o.isCells = false := fun r e => by cases e; exact ⟨_, HK.out, rfl⟩
    exact ⟨_, results_tmp rfl _ _ _, _, rfl, own_turn H2.out hg hr, H4.out.trans (belowK_b (w := w) (Nat.le_refl _) W D _ _ HD.out HK.out rfl rfl)⟩
end Go.Proofs.Ytblnlmhkaacciaa
