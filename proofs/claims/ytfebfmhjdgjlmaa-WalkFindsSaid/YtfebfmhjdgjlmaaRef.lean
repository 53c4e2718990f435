/-
  The walk of the document's Walk, which calls itself. No condition beyond what a slice that came in is.
-/
import Derived.Test.YtfebfmhjdgjlmaaWalks
import Derived.Test.YtfebfmhjdgjlmaaOwn
import Derived.Test.YtfebfmhjdgjlmaaHdWalk
namespace Go.Proofs.Ytfebfmhjdgjlmaa
open Go.ChangeShapes Go.WideShapes Go.ChangeAt Go.RowKit
set_option linter.unusedVariables false

theorem info32 : (Try.prog.info? 32).map (fun i => (i.zero, i.size, i.bytes)) = some (some (.agg #[.int .i64 0, .int .i64 0, .int .i64 0]), 3, 24) := by kernel_rfl

theorem ref_bad (a : Option Addr) (len cap : Nat) (k m at_ : Int) (w : World) (hl : len ≤ 140737488351232) (h : at_ < 0 ∨ (len : Int) < at_) :
    Calls Try.prog 7 #[.slice a len cap, .int .i64 k, .int .i64 at_, .int .i64 m] w fun e w' => e = .returned (.tuple #[.slice none 0 0, .int .i64 2]) ∧ w = w' := by
  rcases h with h | h
  · have d1 : decide (at_ < 0) = true := by simpa using h
    go_enter Try.func7, Try.ntmps7
    go_wp2
    go_ret2
    exact ⟨rfl, rfl⟩
  · have d1 : decide (at_ < 0) = false := by simp; omega
    go_enter Try.func7, Try.ntmps7
    go_wp2
    go_ret2
    exact ⟨rfl, rfl⟩
theorem walk_bad (a : Option Addr) (len cap : Nat) (k at_ : Int) (w : World) (hl : len ≤ 140737488351232) (h : at_ < 0 ∨ (len : Int) < at_) :
    Calls Try.prog 6 #[.slice a len cap, .int .i64 k, .int .i64 at_] w fun e w' => e = .returned (.tuple #[.slice none 0 0, .int .i64 2]) ∧ w = w' := by
  rcases h with h | h
  · have d1 : decide (at_ < 0) = true := by simpa using h
    go_enter Try.func6, Try.ntmps6
    go_wp2_with fail
    go_step3
    go_wp2_with fail
    rw [Exit.noGoto_ret]
    go_ret2
    exact ⟨rfl, rfl⟩
  · have d1 : decide (at_ < 0) = false := by simp; omega
    go_enter Try.func6, Try.ntmps6
    go_wp2_with fail
    go_step3
    go_wp2_with fail
    rw [Exit.noGoto_ret]
    go_ret2
    exact ⟨rfl, rfl⟩

/-- One header, in a row of its own. -/
theorem single {w : World} {T : TypeId} {k a l : Int} : Own (w.alloc (.cells #[.int .i64 k, .int .i64 a, .int .i64 l] T)) w.heap.size T (.slice (some ⟨w.heap.size, 0, none⟩) 1 1) [(k, a, l)] :=
  World.ownsRow_lit _ _ 1 (Nat.le_refl _) (by unfold maxLen; omega) rfl

theorem Own.base {w : World} {B B' : Nat} {T : TypeId} {v : Value} {ps : List Hd} (h : Own w B T v ps) (hb : B' ≤ B) : Own w B' T v ps := by
  refine ⟨h.1, ?_⟩
  rcases h.2 with h | ⟨g, cap, cur, hv, hg, r⟩
  · exact Or.inl h
  · exact Or.inr ⟨g, cap, cur, hv, by omega, r⟩
theorem Own.some_ {w : World} {B : Nat} {T : TypeId} {A : Option Addr} {n c : Nat} {ps : List Hd} (h : Own w B T (.slice A n c) ps) (hp : 0 < ps.length) : ∃ g, A = some ⟨g, 0, none⟩ := by
  rcases h.2 with ⟨hv, h0⟩ | ⟨g, cap, cur, hv, _⟩
  · omega
  · injection hv with hA; exact ⟨g, hA⟩
theorem Own.cells_later {w : World} {B : Nat} {T : TypeId} {g n c : Nat} {ps : List Hd} {o : Obj} (h : Own w B T (.slice (some ⟨g, 0, none⟩) n c) ps) : ∀ j u, (flat ps)[j]? = some u → (w.alloc o).cell? ((⟨g, 0, none⟩ : Addr).add j) = some u :=
  (World.ownsRow.alloc h o).cells (g := g) rfl
theorem flat_one (ps : List Hd) : ∀ u ∈ flat ps, u.oneCell' = true := by
  intro u hu
  simp only [flat, List.mem_flatMap] at hu
  obtain ⟨p, _, hu⟩ := hu
  exact one3 _ _ _ u hu
theorem ref_end {w w2 w3 : World} {T : TypeId} {v' : Value} {p : Hd} {l : List Hd} {o : Obj} (hb : Below w.heap.size w w2) (h' : w3.ownsRow w.heap.size T 3 v' (1 + l.length) (flat [p] ++ flat l))
    (hg : (w2.alloc o).grownBy w3 (Value.slice (some ⟨w2.heap.size, 0, none⟩) 1 1).ownBlock) :
    ∃ A c, v' = .slice A (p :: l).length c ∧ Own w3 w.heap.size T (.slice A (p :: l).length c) (p :: l) ∧ Below w.heap.size w w3 := by
  have h2 : Own w3 w.heap.size T v' (p :: l) := by
    unfold Own
    rw [show (p :: l).length = 1 + l.length by simp; omega, show flat (p :: l) = flat [p] ++ flat l by simp [flat]]
    exact h'
  obtain ⟨A, c, hv⟩ := h2.form
  refine ⟨A, c, hv, hv ▸ h2, (hb.alloc hb.size o).grown hg (by have := hb.size; simp; omega) (fun k hk => ?_)⟩
  simp [Value.ownBlock] at hk
  have := hb.size
  omega

set_option maxHeartbeats 3200000 in
theorem ref_any (a : Option Addr) (len cap : Nat) (zs : List Int) (hl : len ≤ 140737488351232) (f : Nat) : ∀ (k : Int) (at_ m : Nat) (w : World), m + f = 9 → 1 ≤ f → IsRow .u8 w a len cap zs → at_ ≤ len →
    Calls Try.prog 7 #[.slice a len cap, .int .i64 k, .int .i64 at_, .int .i64 m] w (Post 32 w (wk (fun i => zs.getD i 0) len f k at_ m)) := by
  obtain ⟨i0, hi, hz0, hz1, hz2⟩ := info_parts info32
  have HZ := Lib.hid (And.intro hi (And.intro hz0 (And.intro hz1 hz2)))
  clear hi hz0 hz1 hz2
  induction f with
  | zero => intro k at_ m w h1 h2; omega
  | succ f ih =>
    intro k at_ m w hm _ hr hat
    have IH := Lib.hid ih
    clear ih
    have HR := Lib.hid hr
    have q1 : decide ((at_ : Int) < 0) = false := by simp
    have q2 : decide (len < at_) = false := by simp; omega
    clear hr
    by_cases c1 : k = 44
    · subst c1
      have e : mayE 44 m = 7 := rfl
      rw [wk_may (by rw [e]; decide), e]
      clear e
      go_enter Try.func7, Try.ntmps7
      go_wp2
      go_ret2
      exact ⟨none, 0, rfl, Own.nil _ _ _, Below.refl _ _⟩
    · by_cases c2 : k = 0 ∧ 0 < m
      · obtain ⟨rfl, c3⟩ := c2
        have e : mayE 0 m = 5 := by unfold mayE; rw [if_neg (by decide), if_pos ⟨rfl, by omega⟩]
        rw [wk_may (by rw [e]; decide), e]
        clear e
        go_enter Try.func7, Try.ntmps7
        go_wp2_with fail
        go_ret2
        exact ⟨none, 0, rfl, Own.nil _ _ _, Below.refl _ _⟩
      · by_cases c4 : extB k = false
        · have e : mayE k m = 0 := by unfold mayE; rw [if_neg c1, if_neg (by omega), if_neg (by simp [c4])]
          rw [wk_end e c4]
          have k1 : ¬ k = 0 ∧ ¬ k = 43 ∧ ¬ k = 60 := by simpa [extB, not_or] using c4
          obtain ⟨k2, k3, k4⟩ := k1
          have t1 : (k == 44) = false := by simpa using c1
          have t2 : (k == 0) = false := by simpa using k2
          have t3 : (k != 0) = true := by simpa using k2
          have t4 : (k != 43) = true := by simpa using k3
          have t5 : (k != 60) = true := by simpa using k4
          clear e c4 c2 c1 k2 k3 k4
          go_enter Try.func7, Try.ntmps7
          go_wp2_with fail
          go_ret2
          exact ⟨_, _, rfl, single, (Below.refl _ _).alloc (Nat.le_refl _) _⟩
        · have c5 : extB k = true := by simpa using c4
          have kw : k = 0 ∨ k = 43 ∨ k = 60 := by simpa [extB] using c5
          by_cases c6 : m = 8
          · have e : mayE k m = 8 := by unfold mayE; rw [if_neg c1, if_neg (by omega), if_pos ⟨c5, by omega⟩]
            rw [wk_may (by rw [e]; decide), e]
            clear e c4 c5
            subst c6
            rcases kw with rfl | rfl | rfl
            · omega
            all_goals
              go_enter Try.func7, Try.ntmps7
              go_wp2_with fail
              go_ret2
              exact ⟨none, 0, rfl, Own.nil _ _ _, Below.refl _ _⟩
          · have e : mayE k m = 0 := by unfold mayE; rw [if_neg c1, if_neg (by omega), if_neg (by omega)]
            have t8 : ((m : Int) == 8) = false := by simp; omega
            by_cases c7 : len < at_ + 2
            · rw [wk_short e c5 (Or.inl c7)]
              have q3 : decide ((len : Int) - 2 < at_) = true := by simp; omega
              clear e c4 c5
              rcases kw with rfl | rfl | rfl
              · obtain rfl : m = 0 := by omega
                go_enter Try.func7, Try.ntmps7
                go_wp2_with fail
                go_ret2
                exact ⟨none, 0, rfl, Own.nil _ _ _, Below.refl _ _⟩
              all_goals
                go_enter Try.func7, Try.ntmps7
                go_wp2_with fail
                go_ret2
                exact ⟨none, 0, rfl, Own.nil _ _ _, Below.refl _ _⟩
            · obtain ⟨z0, e0⟩ : ∃ z, zs.getD at_ 0 = z := ⟨_, rfl⟩
              obtain ⟨z1, e1⟩ : ∃ z, zs.getD (at_ + 1) 0 = z := ⟨_, rfl⟩
              have hz := byte_of HR.out (at_ + 1)
              have hy := byte_of HR.out at_
              rw [e1] at hz
              rw [e0] at hy
              obtain ⟨hlc, hcm, hzl⟩ := HR.out.len_le
              obtain ⟨g, o, rfl, hb, hcell⟩ := HR.out.at_ (by omega)
              have x0 := hcell at_ (by omega)
              have x1 := hcell (at_ + 1) (by omega)
              rw [e0] at x0
              rw [e1] at x1
              have q3 : decide ((len : Int) - 2 < at_) = false := by simp; omega
              clear hcell
              by_cases c8 : (len : Int) - at_ < 8 * z1 + 8
              · rw [wk_short e c5 (Or.inr (by rw [e1]; exact c8))]
                clear e c4 c5 e0 e1 hzl
                rcases kw with rfl | rfl | rfl
                · obtain rfl : m = 0 := by omega
                  go_enter Try.func7, Try.ntmps7
                  go_wp2_with fail
                  go_ret2
                  exact ⟨none, 0, rfl, Own.nil _ _ _, Below.refl _ _⟩
                all_goals
                  go_enter Try.func7, Try.ntmps7
                  go_wp2_with fail
                  go_ret2
                  exact ⟨none, 0, rfl, Own.nil _ _ _, Below.refl _ _⟩
              · have hf : 1 ≤ f := by omega
                rw [wk_step e c5 (by rw [e1]; omega)]
                rw [e0, e1]
                have hlen := wk_len (fun i => zs.getD i 0) len f z0 (at_ + (8 * z1 + 8).toNat) (m + 1)
                have hne := wk_some (fun i => zs.getD i 0) len f z0 (at_ + (8 * z1 + 8).toNat) (m + 1)
                have CALL : ∀ W : World, IsRow .u8 W (some ⟨g, o, none⟩) len cap zs → Calls Try.prog 7 #[.slice (some ⟨g, o, none⟩) len cap, .int .i64 z0, .int .i64 (at_ + (8 * z1 + 8)), .int .i64 (m + 1)] W (Post 32 W (wk (fun i => zs.getD i 0) len f z0 (at_ + (8 * z1 + 8).toNat) (m + 1))) := by
                  intro W hW
                  have := IH.out z0 (at_ + (8 * z1 + 8).toNat) (m + 1) W (by omega) hf hW (by omega)
                  rwa [show ((at_ + (8 * z1 + 8).toNat : Nat) : Int) = at_ + (8 * z1 + 8) by omega, show ((m + 1 : Nat) : Int) = m + 1 by omega] at this
                generalize wk (fun i => zs.getD i 0) len f z0 (at_ + (8 * z1 + 8).toNat) (m + 1) = r at *
                have HNE := Lib.hid hne
                have HC := Lib.hid CALL
                clear CALL IH e c4 c5 e0 e1 hzl hne
                obtain ⟨l, er⟩ := r
                by_cases he : er = 0
                · subst he
                  simp only [ne_eq, not_true_eq_false, if_false]
                  have HL := Lib.hid hlen
                  clear hlen
                  rcases kw with rfl | rfl | rfl
                  · obtain rfl : m = 0 := by omega
                    go_enter Try.func7, Try.ntmps7
                    go_wp2_with fail
                    refine (HC.out _ HR.out).mono ?_; rintro e w2 ⟨A, c, rfl, ho, hB⟩
                    obtain ⟨g2, rfl⟩ := Own.some_ ho (HNE.out (by simp))
                    have HO := Lib.hid ho
                    have HB := Lib.hid hB
                    clear ho hB
                    go_wp2_with (at_builtin; refine wpList_append_own _ rfl _ _ 27 rfl w.heap.size 32 i0 _ 3 24 Try.underlying27 HZ.out.1 HZ.out.2.1 HZ.out.2.2.1 HZ.out.2.2.2 rfl (by decide) _ 1 (flat [(_, (at_ : Int), 8 * z1 + 8)]) rfl (Own.base single HB.out.size) ⟨g2, 0, none⟩ l.length c (flat l) rfl (flat_len l) ?a1 ?a2 ?a3 ?a4 ?a5 ?_)
                    case a1 => exact Own.cells_later HO.out
                    case a2 => exact flat_one l
                    case a3 => have := HL.out; unfold maxLen; omega
                    case a4 => have := HL.out; omega
                    case a5 => have := HB.out.size; simp; omega
                    intro v' w3 hown hgrow _
                    obtain ⟨A', c', hv, R⟩ := ref_end HB.out hown hgrow
                    have HRR := Lib.hid R
                    rw [hv]
                    clear R hown hgrow hv
                    go_wp2
                    go_ret2
                    exact ⟨A', c', rfl, HRR.out.1, HRR.out.2⟩
                  · go_enter Try.func7, Try.ntmps7
                    go_wp2_with fail
                    refine (HC.out _ HR.out).mono ?_; rintro e w2 ⟨A, c, rfl, ho, hB⟩
                    obtain ⟨g2, rfl⟩ := Own.some_ ho (HNE.out (by simp))
                    have HO := Lib.hid ho
                    have HB := Lib.hid hB
                    clear ho hB
                    go_wp2_with (at_builtin; refine wpList_append_own _ rfl _ _ 27 rfl w.heap.size 32 i0 _ 3 24 Try.underlying27 HZ.out.1 HZ.out.2.1 HZ.out.2.2.1 HZ.out.2.2.2 rfl (by decide) _ 1 (flat [(_, (at_ : Int), 8 * z1 + 8)]) rfl (Own.base single HB.out.size) ⟨g2, 0, none⟩ l.length c (flat l) rfl (flat_len l) ?b1 ?b2 ?b3 ?b4 ?b5 ?_)
                    case b1 => exact Own.cells_later HO.out
                    case b2 => exact flat_one l
                    case b3 => have := HL.out; unfold maxLen; omega
                    case b4 => have := HL.out; omega
                    case b5 => have := HB.out.size; simp; omega
                    intro v' w3 hown hgrow _
                    obtain ⟨A', c', hv, R⟩ := ref_end HB.out hown hgrow
                    have HRR := Lib.hid R
                    rw [hv]
                    clear R hown hgrow hv
                    go_wp2
                    go_ret2
                    exact ⟨A', c', rfl, HRR.out.1, HRR.out.2⟩
                  · go_enter Try.func7, Try.ntmps7
                    go_wp2_with fail
                    refine (HC.out _ HR.out).mono ?_; rintro e w2 ⟨A, c, rfl, ho, hB⟩
                    obtain ⟨g2, rfl⟩ := Own.some_ ho (HNE.out (by simp))
                    have HO := Lib.hid ho
                    have HB := Lib.hid hB
                    clear ho hB
                    go_wp2_with (at_builtin; refine wpList_append_own _ rfl _ _ 27 rfl w.heap.size 32 i0 _ 3 24 Try.underlying27 HZ.out.1 HZ.out.2.1 HZ.out.2.2.1 HZ.out.2.2.2 rfl (by decide) _ 1 (flat [(_, (at_ : Int), 8 * z1 + 8)]) rfl (Own.base single HB.out.size) ⟨g2, 0, none⟩ l.length c (flat l) rfl (flat_len l) ?d1 ?d2 ?d3 ?d4 ?d5 ?_)
                    case d1 => exact Own.cells_later HO.out
                    case d2 => exact flat_one l
                    case d3 => have := HL.out; unfold maxLen; omega
                    case d4 => have := HL.out; omega
                    case d5 => have := HB.out.size; simp; omega
                    intro v' w3 hown hgrow _
                    obtain ⟨A', c', hv, R⟩ := ref_end HB.out hown hgrow
                    have HRR := Lib.hid R
                    rw [hv]
                    clear R hown hgrow hv
                    go_wp2
                    go_ret2
                    exact ⟨A', c', rfl, HRR.out.1, HRR.out.2⟩
                · simp only [ne_eq, he, not_false_eq_true, if_true]
                  have he' : (er != 0) = true := by simpa using he
                  have HE := Lib.hid he
                  clear he
                  rcases kw with rfl | rfl | rfl
                  · obtain rfl : m = 0 := by omega
                    go_enter Try.func7, Try.ntmps7
                    go_wp2_with (go_at_call 7; refine (HC.out _ HR.out).mono ?_; rintro e w' ⟨A, c, rfl, ho, hB⟩; have HB := Lib.hid hB; clear hB ho)
                    go_ret2
                    exact ⟨none, 0, rfl, Own.nil _ _ _, HB.out⟩
                  all_goals
                    go_enter Try.func7, Try.ntmps7
                    go_wp2_with (go_at_call 7; refine (HC.out _ HR.out).mono ?_; rintro e w' ⟨A, c, rfl, ho, hB⟩; have HB := Lib.hid hB; clear hB ho)
                    go_ret2
                    exact ⟨none, 0, rfl, Own.nil _ _ _, HB.out⟩
end Go.Proofs.Ytfebfmhjdgjlmaa
