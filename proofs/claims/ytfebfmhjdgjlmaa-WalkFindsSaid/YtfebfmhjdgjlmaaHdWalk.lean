/-
  The walk of walk.Walk. No condition beyond what a slice that came in is.
-/
import Derived.Test.YtfebfmhjdgjlmaaWalks
import Derived.Test.YtfebfmhjdgjlmaaOwn
import Derived.Deep.LoopGhost
import Derived.WalkMore
namespace Go.Proofs.Ytfebfmhjdgjlmaa
open Go.ChangeShapes Go.WideShapes Go.ChangeAt Go.RowKit
set_option linter.unusedVariables false

theorem info31 : (Try.prog.info? 31).map (fun i => (i.zero, i.size, i.bytes)) = some (some (.agg #[.int .i64 0, .int .i64 0, .int .i64 0]), 3, 24) := by kernel_rfl

theorem step_own {w wr w1 : World} {T : TypeId} {v v' : Value} {ps : List Hd} {p : Hd} {o : Obj} (h : Own wr w.heap.size T v ps) (hb : Below w.heap.size w wr)
    (h' : w1.ownsRow w.heap.size T 3 v' (ps.length + 1) (flat ps ++ hd p)) (hg : (wr.alloc o).grownBy w1 v.ownBlock) :
    Own w1 w.heap.size T v' (ps ++ [p]) ∧ Below w.heap.size w w1 := by
  refine ⟨?_, ?_⟩
  · unfold Own; rw [flat_snoc, List.length_append]; exact h'
  · exact (hb.alloc hb.size o).grown hg (by have := hb.size; simp; omega) (fun k hk => (h.lt k hk).1)
theorem fin_end {w wr w1 : World} {B : Nat → Int} {L f : Nat} {k : Int} {a : Nat} {T : TypeId} {v v' : Value} {ps : List Hd} {o : Obj} {t : List Hd × Int} (h : Own wr w.heap.size T v ps) (hb : Below w.heap.size w wr)
    (h' : w1.ownsRow w.heap.size T 3 v' (ps.length + 1) (flat ps ++ hd (k, (a : Int), (L : Int) - a))) (hg : (wr.alloc o).grownBy w1 v.ownBlock)
    (ht : t = glue ps (wk B L (f + 1) k a ps.length)) (h1 : mayE k ps.length = 0) (h2 : extB k = false) :
    ∃ A c, v' = .slice A t.1.length c ∧ t.2 = 0 ∧ Own w1 w.heap.size T (.slice A t.1.length c) t.1 ∧ Below w.heap.size w w1 := by
  obtain ⟨g1, g2⟩ := step_own h hb h' hg
  rw [wk_end h1 h2, glue_good] at ht
  subst ht
  obtain ⟨A, c, hv⟩ := g1.form
  exact ⟨A, c, hv, rfl, hv ▸ g1, g2⟩

set_option maxHeartbeats 1600000 in
theorem walk_any (a : Option Addr) (len cap : Nat) (zs : List Int) (k0 : Int) (a0 : Nat) (w : World) (hr : IsRow .u8 w a len cap zs) (ha : a0 ≤ len) (hl : len ≤ 140737488351232) :
    Calls Try.prog 6 #[.slice a len cap, .int .i64 k0, .int .i64 a0] w (Post 31 w (wk (fun i => zs.getD i 0) len 9 k0 a0 0)) := by
  obtain ⟨i0, hi, hz0, hz1, hz2⟩ := info_parts info31
  have HR := Lib.hid hr
  have HZ := Lib.hid (And.intro hi (And.intro hz0 (And.intro hz1 hz2)))
  obtain ⟨T, hT⟩ : ∃ T, T = wk (fun i => zs.getD i 0) len 9 k0 a0 0 := ⟨_, rfl⟩
  rw [← hT]
  have HT : Hid (T = glue [] (wk (fun i => zs.getD i 0) len 9 k0 a0 0)) := by unfold Hid; rw [glue_nil _ (wk_err _ _ _ _ _ _)]; exact hT
  clear hr hi hz0 hz1 hz2 hT
  have q1 : decide ((a0 : Int) < 0) = false := by simp
  have q2 : decide (len < a0) = false := by simp; omega
  go_enter Try.func6, Try.ntmps6
  go_wp2_with fail
  go_step3
  go_wp2_with fail
  go_step3
  go_wp2_with fail
  go_loopg [1, 2, 8] 9 (fun gk s1 s2 s8 wr => ∃ (k : Int) (at_ : Nat) (ps : List Hd) (A : Option Addr) (c : Nat), s1 = .int .i64 k ∧ s2 = .int .i64 at_ ∧ s8 = .slice A ps.length c ∧ at_ ≤ len ∧ 1 ≤ gk ∧ gk + ps.length = 9 ∧
    Hid (Own wr w.heap.size 31 (.slice A ps.length c) ps ∧ Below w.heap.size w wr ∧ T = glue ps (wk (fun i => zs.getD i 0) len gk k at_ ps.length)))
  case atStart => exact ⟨k0, a0, [], none, 0, rfl, rfl, rfl, ha, by omega, rfl, Own.nil _ _ _, Below.refl _ _, HT.out⟩
  case round =>
    obtain ⟨k, at_, ps, A, c, rfl, rfl, rfl, hat, hg, hgp, HI⟩ := hrel
    clear HT
    obtain ⟨f, rfl⟩ : ∃ f, gk = f + 1 := ⟨gk - 1, by omega⟩
    have hmb : ps.length ≤ 8 := by omega
    by_cases h1 : mayE k ps.length = 0
    · have H1 := Lib.hid h1
      clear h1
      by_cases h2 : extB k = false
      · have H2 := Lib.hid h2
        clear h2
        go_wp2_with (first
          | (go_at_call 11; refine (may_val _ _ _ _ H1.out).mono ?_; rintro e w' ⟨rfl, rfl⟩)
          | (go_at_call 12; refine (ext_val _ _ _ H2.out).mono ?_; rintro e w' ⟨rfl, rfl⟩)
          | (at_builtin; refine wpList_append_own _ rfl _ _ 23 rfl w.heap.size 31 i0 _ 3 24 Try.underlying23 HZ.out.1 HZ.out.2.1 HZ.out.2.2.1 HZ.out.2.2.2 rfl (by decide) _ _ _ rfl (World.ownsRow.alloc HI.out.1 _) ⟨wr.heap.size, 0, none⟩ 1 1 (hd (k, at_, (len : Int) - at_)) rfl rfl ?c1 ?c2 ?c3 ?c4 ?c5 ?_))
        case c1 => exact cells3 (heap_alloc_new _ _)
        case c2 => exact one3 _ _ _
        case c3 => unfold maxLen; omega
        case c4 => omega
        case c5 => have := HI.out.2.1.size; simp; omega
        intro v' w1 hown hgrow _
        obtain ⟨A', c', hv, ht, R⟩ := fin_end HI.out.1 HI.out.2.1 hown hgrow HI.out.2.2 H1.out H2.out
        have HT2 := Lib.hid ht
        have HRR := Lib.hid R
        rw [hv]
        clear R hown hgrow hv ht
        go_wp2
        rw [Exit.noGoto_ret]
        go_ret2
        exact ⟨A', c', by rw [HT2.out]; rfl, HRR.out.1, HRR.out.2⟩
      · have H2 : Hid (extB k = true) := by simpa [Hid] using h2
        clear h2
        by_cases h3 : len < at_ + 2 ∨ (len : Int) - at_ < 8 * zs.getD (at_ + 1) 0 + 8
        · have H3 := Lib.hid h3
          clear h3
          go_wp2_with (first
            | (go_at_call 11; refine (may_val _ _ _ _ H1.out).mono ?_; rintro e w' ⟨rfl, rfl⟩)
            | (go_at_call 12; refine (ext_val _ _ _ H2.out).mono ?_; rintro e w' ⟨rfl, rfl⟩)
            | (go_at_call 13; refine (measure_short a len cap zs at_ _ (HR.out.later HI.out.2.1) hat hl H3.out).mono ?_; rintro e w' ⟨rfl, nq, rfl⟩))
          rw [Exit.noGoto_ret]
          go_ret2
          have e := HI.out.2.2
          rw [wk_short H1.out H2.out H3.out, glue_bad _ _ (by decide)] at e
          subst e
          exact ⟨none, 0, rfl, Own.nil _ _ _, below_draws HI.out.2.1 _⟩
        · obtain ⟨z0, e0⟩ : ∃ z, zs.getD at_ 0 = z := ⟨_, rfl⟩
          obtain ⟨z1, e1⟩ : ∃ z, zs.getD (at_ + 1) 0 = z := ⟨_, rfl⟩
          have hz := byte_of HR.out (at_ + 1)
          have h3' := h3
          rw [e1] at hz h3'
          have H3 := Lib.hid h3
          have E0 := Lib.hid e0
          have E1 := Lib.hid e1
          clear h3 e0 e1
          go_wp2_with (first
            | (go_at_call 11; refine (may_val _ _ _ _ H1.out).mono ?_; rintro e w' ⟨rfl, rfl⟩)
            | (go_at_call 12; refine (ext_val _ _ _ H2.out).mono ?_; rintro e w' ⟨rfl, rfl⟩)
            | (go_at_call 13; refine (measure_long a len cap zs at_ _ _ _ (HR.out.later HI.out.2.1) hat hl E0.out E1.out H3.out).mono ?_; rintro e w' ⟨rfl, nq, rfl⟩)
            | (at_builtin; refine wpList_append_own _ rfl _ _ 23 rfl w.heap.size 31 i0 _ 3 24 Try.underlying23 HZ.out.1 HZ.out.2.1 HZ.out.2.2.1 HZ.out.2.2.2 rfl (by decide) _ _ _ rfl (World.ownsRow.alloc (w := wr.drewN nq) HI.out.1 _) ⟨wr.heap.size, 0, none⟩ 1 1 (hd (k, at_, 8 * z1 + 8)) rfl rfl ?d1 ?d2 ?d3 ?d4 ?d5 ?_))
          case d1 => exact cells3 (heap_alloc_new _ _)
          case d2 => exact one3 _ _ _
          case d3 => unfold maxLen; omega
          case d4 => omega
          case d5 => have := HI.out.2.1.size; simp; omega
          intro v' w1 hown hgrow _
          have R := step_own (wr := wr.drewN nq) HI.out.1 (below_draws HI.out.2.1 _) hown hgrow
          obtain ⟨A', c', hv⟩ := R.1.form
          have HRR := Lib.hid R
          have HV := Lib.hid hv
          have hlen : (ps ++ [(k, (at_ : Int), 8 * z1 + 8)]).length = ps.length + 1 := by simp
          have HT3 : Hid (T = glue (ps ++ [(k, (at_ : Int), 8 * z1 + 8)]) (wk (fun i => zs.getD i 0) len f z0 (at_ + (8 * z1 + 8).toNat) (ps ++ [(k, (at_ : Int), 8 * z1 + 8)]).length)) := by
            unfold Hid
            rw [hlen, ← glue_step, HI.out.2.2, wk_step H1.out H2.out H3.out, E0.out, E1.out]
          have HLN := Lib.hid hlen
          rw [hv]
          clear R hown hgrow hv hlen
          go_wp2
          go_roundg f
          case rel =>
            refine ⟨z0, at_ + (8 * z1 + 8).toNat, ps ++ [(k, (at_ : Int), 8 * z1 + 8)], A', c', rfl, ?_, rfl, ?_, ?_, ?_, ?_, HRR.out.2, HT3.out⟩
            · exact congrArg (Value.int .i64) (by omega)
            · omega
            · have := may_room H1.out H2.out; omega
            · rw [HLN.out]; omega
            · exact HV.out ▸ HRR.out.1
          case measure => omega
    · have h1' : (mayE k ps.length != 0) = true := by simpa using h1
      have H1 := Lib.hid h1
      clear h1
      go_wp2_with (go_at_call 11; refine (may_any _ _ _).mono ?_; rintro e w' ⟨rfl, rfl⟩)
      rw [Exit.noGoto_ret]
      go_ret2
      have e := HI.out.2.2
      rw [wk_may H1.out, glue_bad _ _ H1.out] at e
      subst e
      exact ⟨none, 0, rfl, Own.nil _ _ _, HI.out.2.1⟩
end Go.Proofs.Ytfebfmhjdgjlmaa
