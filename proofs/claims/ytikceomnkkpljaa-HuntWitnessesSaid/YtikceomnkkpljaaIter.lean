/-
  The walk of each's iterator, at every body that keeps maps and the pairs. No condition.
-/
import Derived.Test.YtikceomnkkpljaaEach
namespace Go.Proofs.Ytikceomnkkpljaa
open Go.ChangeShapes Go.WideShapes Go.ChangeAt Go.RowKit Go.Shelf
set_option linter.unusedVariables false
set_option linter.unusedSimpArgs false
attribute [local go_sem] Oper.semAt_some

/-- Between two numbers. -/
def Mid (W : World) (g o : Nat) (ps : List (Int × Int)) (J : List Node → World → Prop) (k : Nat) (ns : List Int) (pre : List Node) (D : DataW Nat) (wr : World) : Prop :=
  J pre wr ∧ vals pre = nodesL ns ∧ ns.length = k ∧ Mp wr W.heap.size k D ∧ Cnt D ns ∧ (0 < ps.length → g < W.heap.size ∧ PCells wr g o ps) ∧ W.heap.size < wr.heap.size
theorem Mid.alloc {W : World} {g o k : Nat} {ps : List (Int × Int)} {J : List Node → World → Prop} {ns : List Int} {pre : List Node} {D : DataW Nat} {wr : World} (h : Mid W g o ps J k ns pre D wr) (hJ : AbidesFrom W.heap.size J) (c : Obj) : Mid W g o ps J k ns pre D (wr.alloc c) := by
  obtain ⟨h1, h2, h3, h4, h5, h6, h7⟩ := h
  refine ⟨hJ pre wr _ none h1 (World.grownBy_alloc wr c none) (fun r e => by cases e), h2, h3, h4.alloc _, h5, fun hp => ⟨(h6 hp).1, (h6 hp).2.kept (Below.heap_alloc wr c g (by have := (h6 hp).1; omega))⟩, by simp; omega⟩
/-- The map has counted one more. -/
theorem Mid.count {W : World} {g o k : Nat} {ps : List (Int × Int)} {J : List Node → World → Prop} {ns : List Int} {pre : List Node} {D D' : DataW Nat} {wr w1 : World} (h : Mid W g o ps J k ns pre D wr) (hJ : AbidesFrom W.heap.size J) (hg : wr.grownBy w1 (some W.heap.size)) (hm : Mp w1 W.heap.size (k + 1) D') :
    J pre w1 ∧ Mp w1 W.heap.size (k + 1) D' ∧ (0 < ps.length → g < W.heap.size ∧ PCells w1 g o ps) ∧ W.heap.size < w1.heap.size := by
  obtain ⟨h1, h2, h3, h4, h5, h6, h7⟩ := h
  refine ⟨hJ pre wr _ _ h1 hg (fun r e => by cases e; exact ⟨Nat.le_refl _, h4.row⟩), hm, fun hp => ⟨(h6 hp).1, (h6 hp).2.kept (hg.block g (by have := (h6 hp).1; omega) (fun e => by have := (h6 hp).1; injection e with e; omega))⟩, Nat.lt_of_lt_of_le h7 hg.size⟩

set_option maxRecDepth 100000 in
set_option maxHeartbeats 3200000 in
theorem each_in (F : Fence) (n0 : Nat) (h32 : F.fn 32) (h19 : F.fn 19) (hro : F.round = none) (his : ∀ (x : Int) (w : World), CallsIn F (n0 - 1) Try.prog 19 #[.int .i64 x] w fun e w' => e = .returned (.bool (isN x)) ∧ w = w') (hn0 : 1 ≤ n0) (l b1 g o m c : Nat) (A : Option Addr) (ps : List (Int × Int)) (J Jx : List Node → World → Prop) (W : World) (hJ : AbidesFrom W.heap.size J)
    (hY : ∀ pre x W1, J pre W1 → pre.length < m * 2 → YieldAt F (n0 - 1) Try.prog l #[.int .i64 x.1] W1 fun e W' => (e = .returned (.bool true) ∧ J (pre ++ [x]) W' ∧ KpG g W1 W') ∨ (e = .returned (.bool false) ∧ Jx (pre ++ [x]) W'))
    (hA : 0 < m → A = some ⟨g, o, none⟩ ∧ g < W.heap.size ∧ PCells W g o ps) (hm : ps.length = m) (hm2 : m ≤ 1000) (hw : ∀ p ∈ ps, wfi p.1 ∧ wfi p.2) (cb : W.cell? ⟨b1, 0, none⟩ = some (.slice A m c)) (h0 : J [] W) :
    CallsIn F n0 Try.prog 32 #[.func (.yield l) #[] #[], .pointer (some ⟨b1, 0, none⟩)] W fun e W' => (∃ v, e = .returned v) ∧ ((∃ ys, vals ys = nodesL (flatN ps) ∧ J ys W') ∨ (∃ pre, True ∧ Jx pre W')) := by
  have hmm := @run_makeMap Try.prog
  have cb1 : (W.alloc (.map #[] 0)).cell? ⟨b1, 0, none⟩ = some (.slice A m c) := ((Below.refl W.heap.size W).alloc (Nat.le_refl _) _).cell (p := ⟨b1, 0, none⟩) (by have := block_lt_of_cell cb; exact this) |>.trans cb
  have M0 : Hid (Mid W g o ps J 0 [] [] (.map []) (W.alloc (.map #[] 0))) :=
    ⟨hJ [] W _ none h0 (World.grownBy_alloc W _ none) (fun r e => by cases e), rfl, rfl, World.ownsMap_made W Try.prog 3 _, Cnt.nil, fun hp => ⟨(hA (by omega)).2.1, (hA (by omega)).2.2.kept (Below.heap_alloc W _ g (hA (by omega)).2.1)⟩, by simp⟩
  have HJ := Lib.hid hJ
  have HY := Lib.hid hY
  have HA : Hid (0 < m → A = some ⟨g, o, none⟩) := fun h => (hA h).1
  have HW := Lib.hid hw
  have HIS := Lib.hid his
  have H19 := Lib.hid h19
  have HM := Lib.hid hm
  clear hJ hY hA hw hm h0 cb his h19
  refine callsIn_of_wp Try.func32 rfl h32 ?_ hro
  simp only [Try.ntmps32, List.size_toArray, List.length_cons, List.length_nil, Nat.reduceAdd, Nat.reduceSub, Array.replicate_succ, Array.replicate_zero, List.push_toArray, List.append_toArray, List.nil_append, List.cons_append]
  gi_wp2
  gi_loopw [11] (fun s11 wr => ∃ (i : Nat) (pre : List Node) (D : DataW Nat), s11 = .int .i64 (i : Int) ∧ i ≤ m ∧ Hid (Mid W g o ps J (i * 2) (flatN (ps.take i)) pre D wr))
    (fun s11 wr => m - (intOf s11).toNat)
  case atStart => exact ⟨0, [], .map [], rfl, by omega, M0.out⟩
  case round =>
    obtain ⟨i, pre, D, rfl, him, HI⟩ := hrel
    by_cases hlt : i < m
    · have hil : i < ps.length := by have := HM.out; omega
      obtain rfl := HA.out (by omega)
      have hpc := (HI.out.2.2.2.2.2.1 (by omega)).2 i hil
      obtain ⟨x0, x1⟩ := hpc
      have hwx := HW.out _ (List.getElem_mem hil)
      have hfl : flatN (ps.take (i + 1)) = flatN (ps.take i) ++ [(ps[i]).1] ++ [(ps[i]).2] := by
        rw [List.take_add_one, List.getElem?_eq_getElem hil]
        exact flatN_snoc _ _
      have HFL := Lib.hid hfl
      have HWX := Lib.hid hwx
      obtain ⟨p, hp⟩ : ∃ p, ps[i] = p := ⟨_, rfl⟩
      rw [hp] at x0 x1 HFL HWX
      obtain ⟨a, b⟩ := p
      have b1' : (0 : Int) ≤ (i : Int) := Int.natCast_nonneg i
      have b2' : (i : Int) < (m : Int) := Int.ofNat_lt.2 hlt
      clear hfl hwx hp
      have HMI : Hid (Mid W g o ps J (i * 2) (flatN (ps.take i)) pre D (wr.alloc (.cells #[.int .i64 a, .int .i64 b] 42))) := HI.out.alloc HJ.out _
      obtain ⟨ns0, hns0⟩ : ∃ ns0, flatN (ps.take i) = ns0 := ⟨_, rfl⟩
      rw [hns0] at HMI HFL
      clear hns0 HI
      gi_wp2
      obtain ⟨wa, hwa⟩ : ∃ wa, wr.alloc (.cells #[.int .i64 a, .int .i64 b] 42) = wa := ⟨_, rfl⟩
      rw [hwa] at HMI ⊢
      clear hwa x0 x1
      gi_loopw [16] (fun s16 wq => ∃ (j : Nat) (pre : List Node) (D : DataW Nat), s16 = .int .i64 (j : Int) ∧ j ≤ 2 ∧ Hid (Mid W g o ps J (i * 2 + j) (ns0 ++ [a, b].take j) pre D wq))
        (fun s16 wq => 2 - (intOf s16).toNat)
      case atStart => exact ⟨0, pre, D, rfl, by omega, by (have := HMI.out; unfold Hid; simpa using this)⟩
      case round =>
        obtain ⟨j, pre, D, rfl, hj2, HQ⟩ := hrel
        clear HMI
        by_cases hjl : j < 2
        · have hix := idx42 a b j hjl wr
          obtain ⟨x, hx⟩ : ∃ x, (if j = 0 then a else b) = x := ⟨_, rfl⟩
          have htk : [a, b].take (j + 1) = [a, b].take j ++ [x] := by
            rcases (show j = 0 ∨ j = 1 by omega) with rfl | rfl <;> (subst hx; rfl)
          have hwx : wfi x := by
            rcases (show j = 0 ∨ j = 1 by omega) with rfl | rfl
            · subst hx; exact HWX.out.1
            · subst hx; exact HWX.out.2
          rw [hx] at hix
          have HTK : Hid (ns0 ++ [a, b].take (j + 1) = (ns0 ++ [a, b].take j) ++ [x]) := by unfold Hid; rw [htk, List.append_assoc]
          obtain ⟨ns, hns⟩ : ∃ ns, ns0 ++ [a, b].take j = ns := ⟨_, rfl⟩
          obtain ⟨k, hk⟩ : ∃ k, i * 2 + j = k := ⟨_, rfl⟩
          have hkm : k < m * 2 := by omega
          have hkx : k < maxLen := by unfold maxLen; omega
          have HKE : Hid (i * 2 + (j + 1) = k + 1) := by unfold Hid; omega
          rw [hns, hk] at HQ
          rw [hns] at HTK
          have hkey := Maps.keyOf_int_mk (P := Try.prog) (k := 3) Try.underlying3 hwx
          have HKX := Lib.hid hkx
          have hplen : pre.length < m * 2 := by
            have h1 := HQ.out.2.1
            have h2 := nodesL_len ns
            have h3 := HQ.out.2.2.1
            have h4 : (vals pre).length = pre.length := by simp [vals]
            rw [h1] at h4
            omega
          have HPL := Lib.hid hplen
          have HST : Hid (∀ c c2 : Int, ∀ w1 : World, D.atKey (.int .i64 x) (.lit (.int .i64 0)) = .lit (.int .i64 c) → (D.put (.int .i64 x) (.lit (.int .i64 (wrap64 (c + 1))))).atKey (.int .i64 x) (.lit (.int .i64 0)) = .lit (.int .i64 c2) →
              c2 = ((ns.count x : Nat) : Int) + 1 ∧ Cnt (D.put (.int .i64 x) (.lit (.int .i64 (wrap64 (c + 1))))) (ns ++ [x])) := by
            intro c c2 w1 e1 e2
            have hC := HQ.out.2.2.2.2.1
            have e3 : c = ((ns.count x : Nat) : Int) := by
              have := e1.symm.trans (hC.2 x)
              injection this with this
              injection this
            have hle : ns.count x ≤ 2000 := by have := List.count_le_length (a := x) (l := ns); have h3 := HQ.out.2.2.1; omega
            have e4 : wrap64 (c + 1) = ((ns.count x : Nat) : Int) + 1 := by rw [e3]; exact IntWalk.wrap64_in _ (by omega)
            have hS := hC.snoc x (wrap64 (c + 1)) e4
            refine ⟨?_, hS⟩
            have := e2.symm.trans (hS.2 x)
            injection this with this
            injection this with _ this
            rw [this]
            simp [List.count_append]
          clear hx htk hns hk hkx hplen hwx
          cases hN : isN x with
          | false =>
            have HN := Lib.hid hN
            gi_wp2_with (first
              | (gi_at_lookup; refine wpListIn_lookup_own_int _ rfl _ _ 59 rfl 3 3 .i64 (Maps.int_keyed Try.underlying3) Try.underlying59 Try.underlying3 (zero3 _) W.heap.size k D rfl HQ.out.2.2.2.1 _ _ rfl hkey ?_; intro c hat hwc; have HAT := Lib.hid hat; clear hat hwc)
              | (gi_at_mapUpdate; refine wpListIn_mapUpdate_own _ rfl _ _ _ 59 rfl 3 3 (Maps.int_keyed Try.underlying3) Try.underlying59 _ W.heap.size k D rfl HQ.out.2.2.2.1 HKX.out _ _ _ rfl rfl hkey _ [] (plainElem_int Try.underlying3 (wrap64_wf _)) ?_; intro w1 hown1 hgrow1; have H1 := Lib.hid (HQ.out.count HJ.out hgrow1 hown1); clear hown1 hgrow1)
              | (gi_at_lookup; refine wpListIn_lookup_own_int _ rfl _ _ 59 rfl 3 3 .i64 (Maps.int_keyed Try.underlying3) Try.underlying59 Try.underlying3 (zero3 _) W.heap.size (k + 1) _ rfl H1.out.2.1 _ _ rfl hkey ?_; intro c2 hat2 hwc2; have HAT2 := Lib.hid hat2; clear hat2 hwc2)
              | (refine And.intro H19.out ?_; gi_at_call 19; refine (HIS.out x _).mono ?_; rintro e w' ⟨rfl, rfl⟩; rw [HN.out])
              | (refine And.intro H19.out ?_)
              | (gi_at_call 19; refine (HIS.out x _).mono ?_; rintro e w' ⟨rfl, rfl⟩; rw [HN.out])
              | fail)
            all_goals
              go_roundw
              case rel =>
                refine ⟨j + 1, pre, D.put (.int .i64 x) (.lit (.int .i64 (wrap64 (c + 1)))), by go_num, by omega, ?_⟩
                rw [HKE.out, HTK.out]
                refine ⟨H1.out.1, ?_, by rw [List.length_append, HQ.out.2.2.1]; rfl, H1.out.2.1, (HST.out c c2 w1 HAT.out HAT2.out).2, H1.out.2.2.1, H1.out.2.2.2⟩
                rw [HQ.out.2.1, nodesL_snoc]
                unfold stepN
                rw [if_neg (by rw [HN.out]; simp)]
              case measure => simp [intOf]; omega
          | true =>
            have HN := Lib.hid hN
            clear hN
            gi_wp2_with (first
              | (gi_at_lookup; refine wpListIn_lookup_own_int _ rfl _ _ 59 rfl 3 3 .i64 (Maps.int_keyed Try.underlying3) Try.underlying59 Try.underlying3 (zero3 _) W.heap.size k D rfl HQ.out.2.2.2.1 _ _ rfl hkey ?_; intro c hat hwc; have HAT := Lib.hid hat; clear hat hwc)
              | (gi_at_mapUpdate; refine wpListIn_mapUpdate_own _ rfl _ _ _ 59 rfl 3 3 (Maps.int_keyed Try.underlying3) Try.underlying59 _ W.heap.size k D rfl HQ.out.2.2.2.1 HKX.out _ _ _ rfl rfl hkey _ [] (plainElem_int Try.underlying3 (wrap64_wf _)) ?_; intro w1 hown1 hgrow1; have H1 := Lib.hid (HQ.out.count HJ.out hgrow1 hown1); clear hown1 hgrow1; obtain ⟨fn, tmps, assign, body, hy, hR⟩ := HY.out pre ⟨x, HN.out⟩ w1 H1.out.1 HPL.out; have HRR := Lib.hid hR; clear hR)
              | (gi_at_lookup; refine wpListIn_lookup_own_int _ rfl _ _ 59 rfl 3 3 .i64 (Maps.int_keyed Try.underlying3) Try.underlying59 Try.underlying3 (zero3 _) W.heap.size (k + 1) _ rfl H1.out.2.1 _ _ rfl hkey ?_; intro c2 hat2 hwc2; have HAT2 := Lib.hid hat2; clear hat2 hwc2)
              | (refine And.intro H19.out ?_; gi_at_call 19; refine (HIS.out x _).mono ?_; rintro e w' ⟨rfl, rfl⟩; rw [HN.out])
              | (refine And.intro H19.out ?_)
              | (gi_at_call 19; refine (HIS.out x _).mono ?_; rintro e w' ⟨rfl, rfl⟩; rw [HN.out])
              | fail)
            all_goals first
              | (go_roundw
                 case rel =>
                   refine ⟨j + 1, pre, D.put (.int .i64 x) (.lit (.int .i64 (wrap64 (c + 1)))), by go_num, by omega, ?_⟩
                   rw [HKE.out, HTK.out]
                   obtain ⟨hc2, hcn⟩ := HST.out c c2 w1 HAT.out HAT2.out
                   refine ⟨H1.out.1, ?_, by rw [List.length_append, HQ.out.2.2.1]; rfl, H1.out.2.1, hcn, H1.out.2.2.1, H1.out.2.2.2⟩
                   have hmem : x ∈ nodesL ns := (mem_nodesL ns x).2 ⟨List.count_pos_iff.1 (by omega), HN.out⟩
                   rw [HQ.out.2.1, nodesL_snoc]
                   unfold stepN
                   rw [if_neg (fun h => h.2 hmem)]
                 case measure => simp [intOf]; omega)
              | (refine HRR.out.mono ?_
                 rintro e W3 (⟨rfl, hJ3, hk3⟩ | ⟨rfl, hJx3⟩)
                 · have hJ3H := Lib.hid hJ3
                   have hk3H := Lib.hid hk3
                   clear hJ3 hk3
                   gi_wp2
                   go_roundw
                   case rel =>
                     refine ⟨j + 1, pre ++ [⟨x, HN.out⟩], D.put (.int .i64 x) (.lit (.int .i64 (wrap64 (c + 1)))), by go_num, by omega, ?_⟩
                     rw [HKE.out, HTK.out]
                     obtain ⟨hc2, hcn⟩ := HST.out c c2 w1 HAT.out HAT2.out
                     have hmem : ¬ x ∈ nodesL ns := fun h => by
                       have h1 := ((mem_nodesL ns x).1 h).1
                       have h2 := List.count_pos_iff.2 h1
                       omega
                     refine ⟨hJ3H.out, ?_, by rw [List.length_append, HQ.out.2.2.1]; rfl, Mp.walks H1.out.2.1 hk3H.out.walks, hcn, fun hp => ⟨(H1.out.2.2.1 hp).1, (H1.out.2.2.1 hp).2.kept hk3H.out.row⟩, Nat.lt_of_lt_of_le H1.out.2.2.2 hk3H.out.walks.size⟩
                     rw [vals_snoc, HQ.out.2.1, nodesL_snoc]
                     unfold stepN
                     rw [if_pos ⟨HN.out, hmem⟩]
                   case measure => simp [intOf]; omega
                 · gi_wp2
                   refine bodyPost_ret (results_none rfl _ _ _) rfl ?_
                   exact ⟨⟨_, rfl⟩, .inr ⟨_, trivial, hJx3⟩⟩)
              | go_goals
        · obtain rfl : j = 2 := by omega
          gi_wp2
          go_roundw
          case rel => exact ⟨i + 1, pre, D, by go_num, by omega, by
            have h := HQ.out
            rw [HFL.out, List.append_assoc, show (i + 1) * 2 = i * 2 + 2 by omega]
            exact h⟩
          case measure => simp [intOf]; omega
    · obtain rfl : i = m := by omega
      gi_wp2
      go_end0
      refine ⟨⟨_, rfl⟩, .inl ⟨pre, ?_, HI.out.1⟩⟩
      have := HI.out.2.1
      rwa [← HM.out, List.take_length] at this
end Go.Proofs.Ytikceomnkkpljaa
