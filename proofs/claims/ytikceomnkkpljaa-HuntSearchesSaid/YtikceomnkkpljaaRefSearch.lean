/-
  The walk of harrierref32.Search. No condition beyond what may be.
-/
import Derived.Test.YtikceomnkkpljaaSyns
namespace Go.Proofs.Ytikceomnkkpljaa
open Go.ChangeShapes Go.WideShapes Go.ChangeAt Go.RowKit
set_option linter.unusedVariables false
set_option linter.unusedSimpArgs false

theorem OwnP.prow {w : World} {B n c : Nat} {A : Option Addr} {l : List (Int × Int)} (h : OwnP w B (.slice A n c) l) : PRow w A l := fun hl => by
  have h' := h
  rcases h'.2 with ⟨hv, h0⟩ | ⟨g, cap, cur, hv, hB, hh, _⟩
  · omega
  · injection hv with e1 e2 e3
    subst e1
    exact ⟨g, 0, rfl, lt_of_block hh, OwnP.cells h⟩
theorem OwnP.more {w : World} {B : Nat} {v : Value} {l : List (Int × Int)} (h : OwnP w B v l) (o : Obj) : OwnP (w.alloc o) B v l := World.ownsRow.alloc h o
theorem OwnP.step {w1 : World} {B k : Nat} {v' : Value} {l : List (Int × Int)} {p : Int × Int} (h : w1.ownsRow B 42 2 v' k (flatPr l ++ [.int .i64 p.1, .int .i64 p.2])) (hk : k = l.length + 1) : OwnP w1 B v' (l ++ [p]) := by
  subst hk
  unfold OwnP
  rw [List.length_append, show flatPr (l ++ [p]) = flatPr l ++ [.int .i64 p.1, .int .i64 p.2] by simp [flatPr]]
  exact h
theorem pair_one {x y : Int} : ∀ u ∈ [Value.int .i64 x, .int .i64 y], u.oneCell' = true := by
  intro u hu
  simp at hu
  rcases hu with rfl | rfl <;> rfl
set_option maxRecDepth 100000 in
set_option maxHeartbeats 3200000 in
theorem refSearch_any (A A2 : Option Addr) (n c n2 c2 : Nat) (ps : List (Int × Int)) (al : List Int) (w : World) (h : PRow w A ps) (hn : ps.length = n) (hm : n ≤ 1000000) (hc : n ≤ c) (hc2 : c ≤ 9223372036854775807)
    (h2 : NRow w A2 al) (hn2 : al.length = n2) (hm2 : n2 ≤ 1000000) :
    Calls Try.prog 13 #[.slice A n c, .slice A2 n2 c2] w fun e w' => ∃ v, e = .returned v ∧ OwnA w' w.heap.size v (searchL ps al) ∧ Below w.heap.size w w' := by
  have HK := Lib.hid (last_any A n c ps w h hn hm hc hc2)
  have HN := Lib.hid h2
  have HNL := Lib.hid hn2
  obtain ⟨i0, hi, hz0, hz1, hz2⟩ := info_parts info34
  have HZ := Lib.hid (And.intro hi (And.intro hz0 (And.intro hz1 hz2)))
  obtain ⟨j0, hj, hy0, hy1, hy2⟩ := info_parts info42
  have HY := Lib.hid (And.intro hj (And.intro hy0 (And.intro hy1 hy2)))
  clear h hn h2 hn2 hi hz0 hz1 hz2 hj hy0 hy1 hy2
  go_enter Try.func13, Try.ntmps13
  go_wp2_with fail
  refine HK.out.mono ?_
  rintro e w' ⟨A', n', c', rfl, k1, k2, k3, k4, rfl⟩
  have hm4 : n' ≤ 4 := by have := lastL_few ps; omega
  obtain ⟨l, hl⟩ : ∃ l, lastL ps = l := ⟨_, rfl⟩
  have HLL := Lib.hid hl
  rw [hl] at k1 k4
  have K1 := Lib.hid k1
  have K4 := Lib.hid k4
  clear k1 k4 hl HK
  have e1 : wrap64 ((n' : Int) - 1) = (n' : Int) - 1 := IntWalk.wrap64_in _ (by omega)
  go_wp2_with fail
  go_loopg [6, 7] (n' + 1) (fun gk s6 s7 wr => ∃ (j cb : Nat) (Ab : Option Addr), s6 = .slice Ab (n' - j) cb ∧ s7 = .int .i64 ((j : Int) - 1) ∧ gk = j + 1 ∧ j ≤ n' ∧ Hid (OwnP wr w.heap.size (.slice Ab (n' - j) cb) (l.drop j).reverse ∧ Below w.heap.size w wr))
  case atStart =>
    refine ⟨n', 0, none, by rw [Nat.sub_self], rfl, rfl, Nat.le_refl _, ?_⟩
    rw [Nat.sub_self, List.drop_eq_nil_of_le (by rw [K1.out]; exact Nat.le_refl _)]
    exact ⟨World.ownsRow_nil _ _ _ _, Below.refl _ _⟩
  case round =>
    obtain ⟨j, cb, Ab, rfl, rfl, hgj, hjn, HI⟩ := hrel
    clear e1
    cases j with
    | succ i =>
      have hil : i < l.length := by have := K1.out; omega
      obtain ⟨g, o, rfl, hg, hc0⟩ := K4.out (by omega)
      obtain ⟨z0, z1⟩ := hc0 i hil
      have hdr : (l.drop i).reverse = (l.drop (i + 1)).reverse ++ [l[i]] := by rw [List.drop_eq_getElem_cons hil, List.reverse_cons]
      have HDR := Lib.hid hdr
      obtain ⟨p, hp⟩ : ∃ p, l[i] = p := ⟨_, rfl⟩
      rw [hp] at z0 z1 HDR
      obtain ⟨a, b⟩ := p
      have x0 : wr.cell? ⟨g, o + i * 2, none⟩ = some (.int .i64 a) := (HI.out.2.cell (p := ⟨g, _, none⟩) hg).trans z0
      have x1 : wr.cell? ⟨g, o + i * 2 + 1, none⟩ = some (.int .i64 b) := (HI.out.2.cell (p := ⟨g, _, none⟩) hg).trans z1
      have e2 : ((i + 1 : Nat) : Int) - 1 = (i : Int) := by omega
      have e3 : (0 : Int) ≤ (i : Int) := Int.natCast_nonneg i
      have e4 : (i : Int) < (n' : Int) := by omega
      have hk : n' - (i + 1) + 1 = n' - i := by omega
      have hdl : ((l.drop (i + 1)).reverse).length = n' - (i + 1) := by rw [List.length_reverse, List.length_drop, K1.out]
      obtain ⟨bk, hbk⟩ : ∃ bk, (l.drop (i + 1)).reverse = bk := ⟨_, rfl⟩
      rw [hbk] at HI HDR hdl
      obtain ⟨k, hke⟩ : ∃ k, n' - (i + 1) = k := ⟨_, rfl⟩
      rw [hke] at HI hdl hk ⊢
      have HKK := Lib.hid hk
      have HDL := Lib.hid hdl
      have O1 := Lib.hid (HI.out.1.more (.cells #[.int .i64 a, .int .i64 b] 42))
      have HROW : Hid ((wr.alloc (.cells #[.int .i64 a, .int .i64 b] 42)).ownsRow w.heap.size 42 2 (.slice Ab k cb) k (flatPr bk)) := by
        have := O1.out
        unfold OwnP at this
        rw [hdl] at this
        exact this
      have h63 : Hid (k + 1 ≤ maxLen) := by unfold Hid maxLen; omega
      have h47 : Hid ((k + 1) * 16 ≤ 140737488355328) := by unfold Hid; omega
      have hsz : Hid (w.heap.size ≤ (wr.alloc (.cells #[.int .i64 a, .int .i64 b] 42)).heap.size) := by unfold Hid; have := HI.out.2.size; simp; omega
      have BA := Lib.hid (HI.out.2.alloc HI.out.2.size (.cells #[.int .i64 a, .int .i64 b] 42))
      have NW : Hid (NewAt (wr.alloc (.cells #[.int .i64 a, .int .i64 b] 42)) wr.heap.size [.int .i64 a, .int .i64 b]) := NewAt.blk (Blk.new wr 42 _) rfl
      rw [e2]
      clear hc0 z0 z1 hdr hp hbk hk hdl e2 hke
      go_wp2_with (first
        | (at_builtin; refine wpList_append_own _ rfl _ _ 22 rfl w.heap.size 42 j0 _ 2 16 Try.underlying22 HY.out.1 HY.out.2.1 HY.out.2.2.1 HY.out.2.2.2 rfl (Nat.succ_pos 1) _ k (flatPr bk) rfl HROW.out ⟨wr.heap.size, 0, none⟩ 1 1 [.int .i64 a, .int .i64 b] rfl rfl NW.out pair_one h63.out h47.out hsz.out ?_; intro v' w1 hown hgrow _; have G1 := Lib.hid hown; have G2 := Lib.hid hgrow; obtain ⟨g', cap', rfl⟩ := ownsRow_succ hown; clear hown hgrow)
        | fail)
      go_roundg (gk - 1)
      case rel =>
        refine ⟨i, cap', some ⟨g', 0, none⟩, by rw [HKK.out], by go_num, by omega, by omega, ?_⟩
        rw [HDR.out, ← HKK.out]
        exact ⟨OwnP.step G1.out (by rw [HDL.out]), BA.out.grown G2.out hsz.out (fun k hk => (O1.out.lt k hk).1)⟩
      case measure => omega
    | zero =>
      have hI := HI.out
      rw [List.drop_zero, Nat.sub_zero] at hI
      have HNO := Lib.hid (nodes_any Ab n' cb l.reverse wr hI.1.prow (by rw [List.length_reverse, K1.out]) (by omega))
      have HBB := Lib.hid hI.2
      have hnl := nodesL_len (flatN l.reverse)
      rw [flatN_len, List.length_reverse, K1.out] at hnl
      have hval : ∀ y ∈ nodesL (flatN l.reverse), isN y = true := fun y hy => ((mem_nodesL _ y).1 hy).2
      obtain ⟨old, hold⟩ : ∃ old, nodesL (flatN l.reverse) = old := ⟨_, rfl⟩
      rw [hold] at HNO hnl hval
      have HOLD := Lib.hid hold
      have HVAL := Lib.hid hval
      clear hI HI hold hval
      go_wp2_with fail
      refine HNO.out.mono ?_; rintro e w3 ⟨v3, rfl, h1, h2⟩
      obtain ⟨A8, c8, rfl⟩ := h1.form
      have HOR := Lib.hid h1.row
      have H3 : Hid (Below w.heap.size w w3) := HBB.out.trans (h2.mono HBB.out.size)
      obtain ⟨L, hL⟩ : ∃ L, old.length = L := ⟨_, rfl⟩
      rw [hL] at hnl ⊢
      have HL2 := Lib.hid hL
      have hL8 : L ≤ 8 := by omega
      clear h1 h2 HNO hL
      go_wp2_with fail
      go_loopg [9, 10] (L + 1) (fun gk s9 s10 wr => ∃ (i k c9 : Nat) (A9 : Option Addr), s9 = .slice A9 k c9 ∧ s10 = .int .i64 i ∧ gk + i = L + 1 ∧ i ≤ L ∧ k ≤ i ∧ Hid (OwnA wr w3.heap.size (.slice A9 k c9) (segL 4 0 ((old.take i).filter (fun x => decide (x ∈ al)))) ∧ Below w3.heap.size w3 wr ∧ (segL 4 0 ((old.take i).filter (fun x => decide (x ∈ al)))).length = k))
      case atStart => exact ⟨0, 0, 0, none, rfl, rfl, by omega, by omega, by omega, OwnA.nil _ _, Below.refl _ _, rfl⟩
      case round =>
        obtain ⟨i, k, c9, A9, rfl, rfl, hgi, hin, hki, HI⟩ := hrel
        by_cases hlt : i < L
        · have hil : i < old.length := by have := HL2.out; omega
          obtain ⟨g8, o8, rfl, hg8, hc8⟩ := HOR.out (by omega)
          have x0 : wr.cell? ⟨g8, o8 + i, none⟩ = some (.int .i64 old[i]) := (HI.out.2.1.cell (p := ⟨g8, _, none⟩) hg8).trans (hc8 i hil)
          have htk : old.take (i + 1) = old.take i ++ [old[i]] := by rw [List.take_add_one, List.getElem?_eq_getElem hil]; rfl
          have hy := isN_ok (HVAL.out _ (List.getElem_mem hil))
          obtain ⟨y, hye⟩ : ∃ y, old[i] = y := ⟨_, rfl⟩
          rw [hye] at x0 htk hy
          have HTK := Lib.hid htk
          obtain ⟨sl, hsl2⟩ : ∃ sl, segL 4 0 ((old.take i).filter (fun x => decide (x ∈ al))) = sl := ⟨_, rfl⟩
          have HS2 := Lib.hid hsl2
          rw [hsl2] at HI
          have b1' : (0 : Int) ≤ (i : Int) := Int.natCast_nonneg i
          have b2' : (i : Int) < (L : Int) := Int.ofNat_lt.2 hlt
          have HINC := Lib.hid (in_any A2 n2 c2 al y wr (HN.out.later (H3.out.trans (HI.out.2.1.mono H3.out.size))) HNL.out hm2)
          clear hc8 htk hye hsl2 hil hg8
          by_cases hmem : y ∈ al
          · have HT : Hid (decide (y ∈ al) = true) := by simpa [Hid] using hmem
            have HSEG := Lib.hid (seg_put y 4 0 w3.heap.size (.slice A9 k c9) sl w3 wr HI.out.1 HI.out.2.1.size HI.out.2.1 (by omega) (by omega) (by omega))
            have h63 : Hid (k + 1 ≤ maxLen) := by unfold Hid maxLen; omega
            have h47 : Hid ((k + 1) * 16 ≤ 140737488355328) := by unfold Hid; omega
            have HROW : Hid (∀ W : World, OwnA W w3.heap.size (.slice A9 k c9) sl → W.ownsRow w3.heap.size 34 16 (.slice A9 k c9) k (flatA sl)) := fun W h => by
              have := h
              unfold OwnA at this
              rw [HI.out.2.2] at this
              exact this
            clear hmem
            go_wp2_with (first
              | (go_at_call 30; refine HINC.out.mono ?_; rintro e w' ⟨rfl, rfl⟩; rw [HT.out])
              | (go_at_call 26; refine HSEG.out.mono ?_; rintro e w4 ⟨p, q, x0', x1', x2', x3', rfl, O4, S4, B4, N4⟩)
              | (at_builtin; refine wpList_append_own _ rfl _ _ 27 rfl w3.heap.size 34 i0 _ 16 16 Try.underlying27 HZ.out.1 HZ.out.2.1 HZ.out.2.2.1 HZ.out.2.2.2 rfl (Nat.succ_pos 15) _ k (flatA sl) rfl (HROW.out _ O4.out) ⟨w4.heap.size, 0, none⟩ 1 1 (Seg.cells (y, 4, 0)) rfl rfl N4.out segs_one h63.out h47.out S4.out ?_; intro v' w5 hown hgrow _; have G1 := Lib.hid hown; have G2 := Lib.hid hgrow; obtain ⟨g', cap', rfl⟩ := ownsRow_succ hown; clear hown hgrow)
              | fail)
            go_roundg (gk - 1)
            case rel =>
              have hfl : segL 4 0 ((old.take (i + 1)).filter (fun x => decide (x ∈ al))) = sl ++ [(y, 4, 0)] := by
                rw [HTK.out, List.filter_append]
                simp only [List.filter_cons, HT.out, if_true, List.filter_nil]
                rw [segL_snoc, HS2.out]
              refine ⟨i + 1, k + 1, cap', some ⟨g', 0, none⟩, rfl, by go_num, by omega, by omega, by omega, ?_⟩
              rw [hfl]
              exact ⟨OwnA.step G1.out (by rw [HI.out.2.2]), B4.out.grown G2.out S4.out (fun k hk => (O4.out.lt k hk).1), by rw [List.length_append, HI.out.2.2]; rfl⟩
            case measure => omega
          · have HT : Hid (decide (y ∈ al) = false) := by simpa [Hid] using hmem
            clear hmem
            go_wp2_with (first
              | (go_at_call 30; refine HINC.out.mono ?_; rintro e w' ⟨rfl, rfl⟩; rw [HT.out])
              | fail)
            go_roundg (gk - 1)
            case rel =>
              have hfl : segL 4 0 ((old.take (i + 1)).filter (fun x => decide (x ∈ al))) = sl := by
                rw [HTK.out, List.filter_append]
                simp only [List.filter_cons, HT.out, List.filter_nil]
                rw [if_neg (by decide), List.append_nil, HS2.out]
              refine ⟨i + 1, k, c9, A9, rfl, by go_num, by omega, by omega, by omega, ?_⟩
              rw [hfl]
              exact HI.out
            case measure => omega
        · obtain rfl : i = L := by omega
          have hI := HI.out
          rw [List.take_of_length_le (by rw [HL2.out]; exact Nat.le_refl _)] at hI
          have HJ := Lib.hid hI
          clear hI HI
          go_wp2_with fail
          go_ret
          have hs : searchL ps al = segL 4 0 (old.filter (fun x => decide (x ∈ al))) := by unfold searchL; rw [HLL.out, HOLD.out]
          refine ⟨_, rfl, ?_, H3.out.trans (HJ.out.2.1.mono H3.out.size)⟩
          rw [hs]
          exact HJ.out.1.base H3.out.size
end Go.Proofs.Ytikceomnkkpljaa
