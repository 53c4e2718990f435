/-
  The walks of each and of its iterator: each version that is kept, with a table of its own. No condition.
-/
import Derived.RangeFuncNested
import Derived.RangeFuncBound
import Derived.RangeFuncCalls
import Derived.RangeFuncLeaves
import Derived.RangeFuncBox
import Derived.Shelf.Abstract
import Derived.Shelf.RegionOpen
import Derived.WalkKit
import Derived.OwnWalkIn
import Derived.TacticsInMore
import Derived.LoopNIn
import Derived.LoopIn
import Derived.Maps.AppendAt
import Derived.ControlIn
import Derived.Test.YtblnlmhkaacciaaReady
import Derived.Test.YtblnlmhkaacciaaPush
namespace Go.Proofs.Ytblnlmhkaacciaa
open Go.ChangeShapes Go.WideShapes Go.ChangeAt Go.RowKit Go.Shelf
set_option linter.unusedVariables false
set_option linter.unusedSimpArgs false
attribute [local go_sem] Oper.semAt_some

/-- What a version says. -/
def Ver.says (p : Ver) : Int × Int × Int × List Int := (p.num, p.frm, p.unt, p.tab)
def sayV (vs : List Ver) : List (Int × Int × Int × List Int) := vs.map Ver.says
def encV (p : Ver) : Array Value := #[.agg #[.int .i64 p.num, .int .i64 p.frm, .int .i64 p.unt, p.sl]]
theorem each_any (p : Option Addr) (w : World) : Calls Try.prog 21 #[.pointer p] w fun e w' => e = .returned (.func (.func 27) #[] #[.pointer (some ⟨w.heap.size, 0, none⟩)]) ∧ w' = w.alloc (.cells #[.pointer p] 23) := by
  go_enter Try.func21, Try.ntmps21
  go_wp2_with fail
  go_ret
  exact ⟨rfl, rfl⟩
theorem grown_of_below {w w' : World} (h : Below w.heap.size w w') : w.grownBy w' none := ⟨h.os, h.tape, h.output, h.size, fun k hk _ => h.block k hk⟩
theorem each_none (n0 b1 X : Nat) (v : Value) (w : World) (hn0 : 1 ≤ n0) (hb : b1 < w.heap.size) (hc : w.cell? ⟨b1, 0, none⟩ = some v) (hv : NoHist w v) :
    SeqR n0 Try.prog 27 #[.pointer (some ⟨b1, 0, none⟩)] encV (fun p W => p.lies W X) X (fun ys => ys = []) 0 w := by
  intro l J W hW hJ hY h0
  have c1 := (hW.cell (p := ⟨b1, 0, none⟩) hb).trans hc
  have HIS := Lib.hid (is_none v W (hv.later hW))
  have H0 := Lib.hid h0
  obtain ⟨p, rfl⟩ : ∃ p, v = .pointer p := by
    rcases hv with rfl | ⟨N, rfl, _⟩
    · exact ⟨_, rfl⟩
    · exact ⟨_, rfl⟩
  clear hY hJ h0 hW hc hv
  refine callsIn_of_wp Try.func27 rfl trivial ?_ rfl
  simp only [Try.ntmps27, List.size_toArray, List.length_cons, List.length_nil, Nat.reduceAdd, Nat.reduceSub, Array.replicate_succ, Array.replicate_zero, List.push_toArray, List.append_toArray, List.nil_append, List.cons_append]
  gi_wp2_with (first
    | (refine And.intro trivial ?_; gi_at_call 25; refine (callsIn_wide.2 HIS.out).mono ?_; rintro e w' ⟨rfl, rfl⟩)
    | (gi_at_call 25; refine (callsIn_wide.2 HIS.out).mono ?_; rintro e w' ⟨rfl, rfl⟩)
    | fail)
  refine bodyPost_ret (results_none rfl _ _ _) rfl ?_
  exact ⟨⟨_, rfl⟩, [], rfl, H0.out⟩
set_option maxRecDepth 100000 in
set_option maxHeartbeats 3200000 in
theorem each_some (n0 b1 H B : Nat) (v : Value) (vs : List Ver) (last : Int) (we w : World) (hn0 : 1 ≤ n0) (hb : b1 < w.heap.size) (hc : w.cell? ⟨b1, 0, none⟩ = some (.pointer (some ⟨H, 0, none⟩))) (hh : HistIs we H B v vs last) (hwe : Below we.heap.size we w) (hl : vs.length ≤ 1000) :
    SeqR n0 Try.prog 27 #[.pointer (some ⟨b1, 0, none⟩)] encV (fun p W => p.lies W we.heap.size) we.heap.size (fun ys => sayV ys = sayV vs) vs.length w := by
  intro l J W hW hJ hY h0
  have c1 := (hW.cell (p := ⟨b1, 0, none⟩) hb).trans hc
  have hweW : Below we.heap.size we W := hwe.trans (hW.mono hwe.size)
  have hhW := hh.later hweW
  have HIS := Lib.hid (is_blk H true _ _ _ hhW.blk)
  obtain ⟨A, c, rfl⟩ := hh.form
  have c2 : W.cell? ⟨H, 1, none⟩ = some (.slice A vs.length c) := (hhW.blk.cell 1).trans rfl
  have HH := Lib.hid hh
  have HWE := Lib.hid hweW
  have HY := Lib.hid hY
  have HJ := Lib.hid hJ
  have H0 := Lib.hid h0
  obtain ⟨n, hn⟩ : ∃ n, vs.length = n := ⟨_, rfl⟩
  have HN := Lib.hid hn
  rw [hn] at c2 hl
  clear hY hJ h0 hW hc hh hwe hhW hweW hn
  refine callsIn_of_wp Try.func27 rfl trivial ?_ rfl
  simp only [Try.ntmps27, List.size_toArray, List.length_cons, List.length_nil, Nat.reduceAdd, Nat.reduceSub, Array.replicate_succ, Array.replicate_zero, List.push_toArray, List.append_toArray, List.nil_append, List.cons_append]
  gi_wp2_with (first
    | (refine And.intro trivial ?_; gi_at_call 25; refine (callsIn_wide.2 HIS.out).mono ?_; rintro e w' ⟨rfl, rfl⟩)
    | (gi_at_call 25; refine (callsIn_wide.2 HIS.out).mono ?_; rintro e w' ⟨rfl, rfl⟩)
    | fail)
  gi_loopw [13] (fun s13 wr => ∃ (i : Nat) (pre : List Ver), s13 = .int .i64 (i : Int) ∧ i ≤ n ∧ Hid (J pre wr ∧ sayV pre = sayV (vs.take i) ∧ Below we.heap.size we wr ∧ W.heap.size ≤ wr.heap.size))
    (fun s13 wr => n - (intOf s13).toNat)
  case atStart => exact ⟨0, [], rfl, by omega, H0.out, rfl, HWE.out, Nat.le_refl _⟩
  case round =>
    obtain ⟨i, pre, rfl, hin, HI⟩ := hrel
    by_cases hlt : i < n
    · have hil : i < vs.length := by have := HN.out; omega
      obtain ⟨g, c', e1, hc', _, hg, hc2, hcell⟩ := HH.out.some_ (by omega)
      injection e1 with e1 _ e2
      subst e1 e2
      have hcw : ∀ j u, (flatV vs)[j]? = some u → wr.cell? ⟨g, j, none⟩ = some u := fun j u hj => (HI.out.2.2.1.cell (p := ⟨g, j, none⟩) hg).trans (hcell j u hj)
      obtain ⟨f0, f1, f2, f3⟩ := flatV_at vs i hil
      have x0 := hcw _ _ f0
      have x1 := hcw _ _ f1
      have x2 := hcw _ _ f2
      have x3 := hcw _ _ f3
      have hsay : sayV (vs.take (i + 1)) = sayV (vs.take i) ++ [vs[i].says] := by
        unfold sayV
        rw [List.take_add_one, List.getElem?_eq_getElem hil, List.map_append]; rfl
      have hlie := HH.out.tabs vs[i] (List.getElem_mem hil)
      have hple : pre.length < vs.length := by
        have h1 := congrArg List.length HI.out.2.1
        simp [sayV] at h1
        omega
      have HPL := Lib.hid hple
      obtain ⟨p, hp⟩ : ∃ p, vs[i] = p := ⟨_, rfl⟩
      rw [hp] at x0 x1 x2 x3 hsay hlie
      obtain ⟨nu, fr, un, pA, pc, tab⟩ := p
      obtain ⟨k, hk⟩ : ∃ k, tab.length = k := ⟨_, rfl⟩
      unfold Ver.sl at x3
      simp only [hk] at x0 x1 x2 x3
      have HSAY := Lib.hid hsay
      have HK := Lib.hid hk
      obtain ⟨wa, hwa⟩ : ∃ wa, wr.alloc (.cells #[.int .i64 nu, .int .i64 fr, .int .i64 un, .slice pA k pc] 32) = wa := ⟨_, rfl⟩
      have KA : Blk wa wr.heap.size 32 #[.int .i64 nu, .int .i64 fr, .int .i64 un, .slice pA k pc] := by rw [← hwa]; exact Blk.new wr 32 _
      have BA : Below wr.heap.size wr wa := by rw [← hwa]; exact (Below.refl _ _).alloc (Nat.le_refl _) _
      have SA : wr.heap.size < wa.heap.size := KA.lt
      have hwea : Below we.heap.size we wa := HI.out.2.2.1.trans (BA.mono HI.out.2.2.1.size)
      have hrow : NRow wa pA tab := (hlie.1.row.later hwea)
      have HCL := Lib.hid (clone_any pA k pc tab wa hrow hk (by have := hlie.2; rw [← hk]; exact this))
      have HST : Hid (∀ (W4 : World) (A' : Option Addr) (c9 : Nat), Tab W4 wa.heap.size (.slice A' k c9) tab → Below wa.heap.size wa W4 →
          Blk W4 wr.heap.size 32 #[.int .i64 nu, .int .i64 fr, .int .i64 un, .slice pA k pc] ∧
          Blk (W4.setCell ⟨wr.heap.size, 3, none⟩ (.slice A' k c9)) wr.heap.size 32 #[.int .i64 nu, .int .i64 fr, .int .i64 un, .slice A' k c9] ∧
          Below wr.heap.size wr (W4.setCell ⟨wr.heap.size, 3, none⟩ (.slice A' k c9)) ∧ Ver.lies (W4.setCell ⟨wr.heap.size, 3, none⟩ (.slice A' k c9)) we.heap.size ⟨nu, fr, un, A', c9, tab⟩) := by
        intro W4 A' c9 ht hb4
        have k4 := KA.below hb4 SA
        refine ⟨k4, k4.put 3 _ rfl, (BA.trans (hb4.mono BA.size)).setCell (by exact Nat.le_refl _) _, ?_, by have := hlie.2; exact this⟩
        unfold Ver.sl
        simp only [hk]
        have h5 : (W4.setCell ⟨wr.heap.size, 3, none⟩ (.slice A' k c9)).ownsRow wa.heap.size 3 1 (.slice A' k c9) tab.length (intsV tab) := own_away ht _ _ (fun e => by
          have := (ht.lt _ e).1
          (have h6 : wa.heap.size ≤ wr.heap.size := this); omega)
        unfold Tab
        exact own_base h5 hwea.size
      clear hcw f0 f1 f2 f3 hcell hsay hlie hple hp hk KA BA hrow hwea
      have HWA := Lib.hid hwa
      clear hwa
      gi_wp2_with fail
      refine And.intro trivial ?_
      rw [HWA.out]
      refine (callsIn_wide.2 HCL.out).mono ?_
      rintro e W4 ⟨A', c9, rfl, ht, hb4⟩
      obtain ⟨s1, s2, s3, s4⟩ := HST.out W4 A' c9 ht hb4
      have y3 : W4.cell? ⟨wr.heap.size, 3, none⟩ = some (.slice pA k pc) := s1.cell 3
      have yf := s1.free 3
      obtain ⟨fn, tmps, assign, body, hy, hR⟩ := HY.out pre ⟨nu, fr, un, A', c9, tab⟩ (W4.setCell ⟨wr.heap.size, 3, none⟩ (.slice A' k c9)) (HJ.out pre wr _ none HI.out.1 (grown_of_below s3) (fun r e => by cases e)) s4 HPL.out
      unfold encV Ver.sl at hy
      simp only [HK.out] at hy
      have z0 : (W4.setCell ⟨wr.heap.size, 3, none⟩ (.slice A' k c9)).cell? ⟨wr.heap.size, 0, none⟩ = some (.int .i64 nu) := s2.cell 0
      have z1 : (W4.setCell ⟨wr.heap.size, 3, none⟩ (.slice A' k c9)).cell? ⟨wr.heap.size, 1, none⟩ = some (.int .i64 fr) := s2.cell 1
      have z2 : (W4.setCell ⟨wr.heap.size, 3, none⟩ (.slice A' k c9)).cell? ⟨wr.heap.size, 2, none⟩ = some (.int .i64 un) := s2.cell 2
      have z3 : (W4.setCell ⟨wr.heap.size, 3, none⟩ (.slice A' k c9)).cell? ⟨wr.heap.size, 3, none⟩ = some (.slice A' k c9) := s2.cell 3
      have HRR := Lib.hid hR
      have H3 := Lib.hid s3
      clear hR s1 s2 s3 s4 ht hb4
      gi_wp2_with fail
      refine HRR.out.mono ?_
      rintro e W6 ⟨rfl, hJ6, hb6⟩
      have HREL : Hid (J (pre ++ [⟨nu, fr, un, A', c9, tab⟩]) W6 ∧ sayV (pre ++ [⟨nu, fr, un, A', c9, tab⟩]) = sayV (vs.take (i + 1)) ∧ Below we.heap.size we W6 ∧ W.heap.size ≤ W6.heap.size) := by
        refine ⟨hJ6, ?_, (HI.out.2.2.1.trans (H3.out.mono HI.out.2.2.1.size)).trans hb6, Nat.le_trans HI.out.2.2.2 (Nat.le_trans H3.out.size hb6.size)⟩
        rw [HSAY.out, ← HI.out.2.1]
        simp [sayV, Ver.says]
      clear hJ6 hb6
      gi_wp2
      go_roundw
      case rel => exact ⟨i + 1, _, by go_num, by omega, HREL.out⟩
      case measure => simp [intOf]; omega
    · obtain rfl : i = n := by omega
      gi_wp2
      go_end0
      refine ⟨⟨_, rfl⟩, pre, ?_, HI.out.1⟩
      have := HI.out.2.1
      rwa [← HN.out, List.take_length] at this
end Go.Proofs.Ytblnlmhkaacciaa
