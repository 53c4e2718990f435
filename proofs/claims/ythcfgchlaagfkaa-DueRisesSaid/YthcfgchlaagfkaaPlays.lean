/-
  The walk of DuePlays. No condition.
-/
import Derived.Test.YthcfgchlaagfkaaSame
import Derived.Test.YthcfgchlaagfkaaRowsIn
import Derived.Test.YthcfgchlaagfkaaSized
namespace Go.Proofs.Ythcfgchlaagfkaa
open Go.ChangeShapes Go.WideShapes Go.ChangeAt Go.RowKit
set_option linter.unusedVariables false
set_option linter.unusedSimpArgs false

/-- What holds between two rounds. -/
structure PlayI (w : World) (H k c : Nat) (A : Option Addr) (m : Nat) (wr : World) : Prop where
  ex : ∃ v l sq r, QIs wr H w.heap.size v l sq ∧ RefIs wr A k c r ∧ Says l r ∧ 0 ≤ sq ∧ sq ≤ m
  le : k ≤ m
  hH : w.heap.size ≤ H
  below : Below w.heap.size w wr
theorem PlayI.later {w wr w' : World} {H k c m : Nat} {A : Option Addr} (h : PlayI w H k c A m wr) (hb : Below wr.heap.size wr w') : PlayI w H k c A m w' := by
  obtain ⟨v, l, sq, r, h1, h2, h3⟩ := h.ex
  exact ⟨⟨v, l, sq, r, h1.later hb, h2.later hb, h3⟩, h.le, h.hH, h.below.trans (hb.mono h.below.size)⟩
theorem QIs.notT {w : World} {H B : Nat} {v : Value} {l : List It} {sq : Int} {T : TypeId} (h : QIs w H B v l sq) (h1 : T ≠ 46) (h2 : T ≠ 51) : ∀ g cs, Blk w g T cs → ¬ OwnQ H v g := by
  intro g cs hb ho
  rcases ho with rfl | e
  · exact (hb.differ h.at_.blk h1) rfl
  · obtain ⟨es, he⟩ := own_blk h.at_.row e
    exact (hb.differ he h2) rfl
/-- The head of the document's list, and the rest. -/
theorem RefIs.cut {w : World} {g o n c : Nat} {r : List (Int × Int)} {x : Int × Int} (h : RefIs w (some ⟨g, o, none⟩) (n + 1) c (x :: r)) : RefIs w (some ⟨g, if c = 1 then o else o + 2, none⟩) n (c - 1) r := by
  by_cases hc : c = 1
  · rw [if_pos hc]
    have h2 := h.2.1
    obtain rfl : n = 0 := by omega
    have hr : r = [] := List.eq_nil_of_length_eq_zero (by have := h.1; simpa using this)
    subst hr
    rcases h.2.2.2 with ⟨e, _⟩ | ⟨g', o', e, h5, h6⟩
    · cases e
    · injection e with e
      injection e with e1 e2
      subst e1 e2
      exact ⟨rfl, by omega, by omega, Or.inr ⟨_, _, rfl, fun j u hj => by simp [flat2] at hj, h6⟩⟩
  · rw [if_neg hc]
    exact h.tail
theorem QIs.not32 {w : World} {H B : Nat} {v : Value} {l : List It} {sq : Int} (h : QIs w H B v l sq) : ∀ g cs, Blk w g 32 cs → ¬ OwnQ H v g := by
  intro g cs hb ho
  rcases ho with rfl | e
  · exact (hb.differ h.at_.blk (by decide)) rfl
  · obtain ⟨es, he⟩ := own_blk h.at_.row e
    exact (hb.differ he (by decide)) rfl
set_option maxRecDepth 100000 in
set_option maxHeartbeats 12800000 in
theorem plays_walk (R : Nat → Nat → Int) (A : Option Addr) (len cap : Nat) (w : World) (hr : IRow .i64 3 w A len R) (hlen : len ≤ 9223372036854775807) :
    Calls Try.prog 3 #[.slice A len cap] w fun e w' => e = .returned (.bool true) ∧ Below w.heap.size w w' := by
  have HR := Lib.hid hr
  clear hr
  go_enter Try.func3, Try.ntmps3
  go_wp2_with fail
  refine (new_any _).mono ?_; rintro e w1 ⟨H, rfl, h1, hH, hb1⟩
  have P0 : Hid (PlayI w H 0 0 none 0 w1) := ⟨⟨_, [], 0, [], h1, RefIs.nil _, Says.nil, by omega, by omega⟩, Nat.le_refl _, hH, hb1⟩
  clear h1 hb1
  go_wp2_with fail
  go_loopg [4, 5, 6, 7, 8, 9, 10, 11, 12, 13, 14] 101 (fun gk s4 s5 s6 s7 s8 s9 s10 s11 s12 s13 s14 wr => ∃ (i k c : Nat) (A' : Option Addr), s4 = .slice A' k c ∧ s5 = .int .i64 i ∧ gk + i = 101 ∧ i ≤ len ∧ i ≤ 100 ∧ Hid (PlayI w H k c A' i wr))
  case atStart => exact ⟨0, 0, 0, none, rfl, rfl, by omega, by omega, by omega, P0.out⟩
  case round =>
    obtain ⟨i, k, c, A', rfl, rfl, hgi, hin, hih, HI⟩ := hrel
    clear P0
    by_cases hlt : i < len
    · by_cases h40 : i < 100
      · obtain ⟨g, o, rfl, hg, hc⟩ := HR.out (by omega)
        have y0 := (HI.out.below.cell (p := ⟨g, o + i * 3 + 0, none⟩) hg).trans (hc i hlt 0 (by omega)).1
        have y1 := (HI.out.below.cell (p := ⟨g, o + i * 3 + 1, none⟩) hg).trans (hc i hlt 1 (by omega)).1
        have y2 := (HI.out.below.cell (p := ⟨g, o + i * 3 + 2, none⟩) hg).trans (hc i hlt 2 (by omega)).1
        simp only [Nat.add_zero] at y0
        clear hc
        generalize R i 0 = K at *
        generalize R i 1 = a at *
        generalize R i 2 = id at *
        have K0 : Hid (Blk (wr.alloc (.cells #[.int .i64 K, .int .i64 a, .int .i64 id] 27)) wr.heap.size 27 #[.int .i64 K, .int .i64 a, .int .i64 id]) := Blk.new _ _ _
        have SA : Hid (PlayI w H k c A' i (wr.alloc (.cells #[.int .i64 K, .int .i64 a, .int .i64 id] 27))) := HI.out.later ((Below.refl _ _).alloc (Nat.le_refl _) _)
        go_upto_block 2 with fail
        obtain ⟨ob, hob⟩ : ∃ ob, wr.heap.size = ob := ⟨_, rfl⟩
        obtain ⟨wa, hwa⟩ : ∃ wa, wr.alloc (.cells #[.int .i64 K, .int .i64 a, .int .i64 id] 27) = wa := ⟨_, rfl⟩
        rw [hwa] at K0 SA ⊢
        rw [hob] at K0 ⊢
        clear hob hwa y0 y1 y2 HI
        go_cut [4] (fun s4 wx => ∃ (k2 c2 : Nat) (A2 : Option Addr), s4 = .slice A2 k2 c2 ∧ Hid (PlayI w H k2 c2 A2 (i + 1) wx))
        case first =>
          obtain ⟨v, l, sq, r, hq, hrf, hs, h0, h1⟩ := SA.out.ex
          have k0 : wa.cell? ⟨ob, 0, none⟩ = some (.int .i64 K) := (K0.out.cell 0).trans rfl
          have k1 : wa.cell? ⟨ob, 1, none⟩ = some (.int .i64 a) := (K0.out.cell 1).trans rfl
          have k2 : wa.cell? ⟨ob, 2, none⟩ = some (.int .i64 id) := (K0.out.cell 2).trans rfl
          have hlk : l.length = k := hs.len.trans hrf.1
          have hk100 : k ≤ 100 := by have := SA.out.le; omega
          have HQ := Lib.hid hq
          have HRF := Lib.hid hrf
          have HS := Lib.hid hs
          have HLK := Lib.hid hlk
          clear hq hrf hs hlk
          have cse : (0 ≤ K.tmod 6 ∧ K.tmod 6 ≤ 2) ∨ (K.tmod 6 = 3 ∨ K.tmod 6 = 4) ∨ (¬ (0 ≤ K.tmod 6 ∧ K.tmod 6 ≤ 2) ∧ ¬ K.tmod 6 = 3 ∧ ¬ K.tmod 6 = 4) := by omega
          generalize K.tmod 6 = M at *
          rcases cse with ⟨p1, p2⟩ | cse | ⟨p1, p3, p4⟩
          · have q1 : decide (0 ≤ M) = true := decide_eq_true p1
            have q2 : decide (M ≤ 2) = true := decide_eq_true p2
            have HA := Lib.hid (add_q a id HQ.out (by have := HLK.out; omega) h0 (by omega))
            clear p1 p2
            go_wp2_with fail
            refine HA.out.mono ?_; rintro e w2 ⟨⟨re, rfl⟩, v2, l2, hq2, hp2, hc2⟩
            have hr2 := HRF.out.kept hc2 HQ.out.not32
            have kb2 := K0.out.kept hc2 (HQ.out.notT (by decide) (by decide) _ _ K0.out)
            have k1 : w2.cell? ⟨ob, 1, none⟩ = some (.int .i64 a) := (kb2.cell 1).trans rfl
            have k2 : w2.cell? ⟨ob, 2, none⟩ = some (.int .i64 id) := (kb2.cell 2).trans rfl
            have HB2 := Lib.hid (HQ.out.turn SA.out.hH SA.out.below hc2)
            have HRA := Lib.hid (refAdd_any A' k c r a id w2 hr2 (by omega))
            have HQ2 := Lib.hid hq2
            have HP2 := Lib.hid hp2
            clear hq2 hp2 hc2 hr2 kb2
            go_wp2_with fail
            refine HRA.out.mono ?_; rintro e w3 ⟨A2, c2, j, hj, hput, rfl, hr3, hb3⟩
            have RES : Hid (PlayI w H (k + 1) c2 A2 (i + 1) w3) :=
              ⟨⟨v2, l2, sq + 1, _, HQ2.out.later hb3, hr3, HS.out.add HP2.out hput, by omega, by omega⟩, by have := SA.out.le; omega, SA.out.hH, HB2.out.trans (hb3.mono HB2.out.size)⟩
            clear hr3 hb3 hput
            go_wp2_with fail
            go_meet
            exact ⟨k + 1, c2, A2, rfl, RES.out⟩
          · have q1 : (decide (0 ≤ M) && decide (M ≤ 2)) = false := by simp; omega
            have q0 : decide (0 ≤ M) = true := by simp; omega
            have q2 : decide (M ≤ 2) = false := by simp; omega
            have q34 : (M == 3) = true ∨ ((M == 3) = false ∧ (M == 4) = true) := by
              rcases cse with h | h
              · exact Or.inl (by simpa using h)
              · exact Or.inr ⟨by simp; omega, by simpa using h⟩
            clear cse q1
            cases r with
            | nil =>
              have hk0 : k = 0 := by have := HRF.out.1; simpa using this.symm
              have hl0 : l = [] := List.eq_nil_of_length_eq_zero (by rw [HLK.out]; exact hk0)
              subst hk0 hl0
              have HN := Lib.hid (next_dead _ a HQ.out.dead)
              have RES : Hid (∀ w2, Below wa.heap.size wa w2 → PlayI w H 0 c A' (i + 1) w2) := fun w2 hb =>
                ⟨⟨v, [], sq, [], HQ.out.later hb, HRF.out.later hb, Says.nil, h0, by omega⟩, by omega, SA.out.hH, SA.out.below.trans (hb.mono SA.out.below.size)⟩
              rcases q34 with q3 | ⟨q3, q4⟩
              · go_wp2_with fail
                refine HN.out.mono ?_; rintro e w2 ⟨rfl, rfl⟩
                clear HN
                go_upto_region 19 with fail
                go_quiet (fail)
                have RES2 := Lib.hid (RES.out _ (below_draws (Below.refl _ _) nq))
                go_wp2_with fail
                go_meet
                exact ⟨0, c, A', rfl, RES2.out⟩
              · go_wp2_with fail
                refine HN.out.mono ?_; rintro e w2 ⟨rfl, rfl⟩
                clear HN
                go_upto_region 19 with fail
                go_quiet (fail)
                have RES2 := Lib.hid (RES.out _ (below_draws (Below.refl _ _) nq))
                go_wp2_with fail
                go_meet
                exact ⟨0, c, A', rfl, RES2.out⟩
            | cons x t =>
              obtain ⟨n, rfl⟩ : ∃ n, k = n + 1 := ⟨t.length, by have := HRF.out.1; simpa using this.symm⟩
              obtain ⟨pa, pb⟩ := x
              rcases HRF.out.shape with ⟨_, _, hz, _⟩ | ⟨g1, o1, rfl⟩
              · omega
              · have hhd := HS.out.head HQ.out.heap
                have hh1 : (gx l 0).at_ = pa := congrArg Prod.fst hhd
                have hh2 : (gx l 0).id = pb := congrArg Prod.snd hhd
                have hnc := HRF.out.2.1
                have hcm := HRF.out.2.2.1
                by_cases hpa : pa ≤ a
                · have HN := Lib.hid (next_yes a HQ.out HLK.out (by omega) (by rw [hh1]; exact hpa))
                  rw [hh2] at HN
                  have t1 : decide (pa ≤ a) = true := decide_eq_true hpa
                  have ST : Hid (∀ (w2 : World) (v2 : Value) (l2 : List It), QIs w2 H w.heap.size v2 l2 sq → (l2 ++ [gx l 0]).Perm l → Chg (OwnQ H v) wa w2 → w2.cell? ⟨ob, 1, none⟩ = some (.int .i64 a) ∧ w2.cell? ⟨g1, o1, none⟩ = some (.int .i64 pa) ∧ w2.cell? ⟨g1, o1 + 1, none⟩ = some (.int .i64 pb) ∧
                      ∀ w3, Below w2.heap.size w2 w3 → PlayI w H n (c - 1) (some ⟨g1, if c = 1 then o1 else o1 + 2, none⟩) (i + 1) w3) := by
                    intro w2 v2 l2 hq2 hp2 hc2
                    have hr2 := HRF.out.kept hc2 HQ.out.not32
                    have kb2 := K0.out.kept hc2 (HQ.out.notT (by decide) (by decide) _ _ K0.out)
                    have hb2 := HQ.out.turn SA.out.hH SA.out.below hc2
                    have hat := hr2.at_ 0 (by simp)
                    refine ⟨(kb2.cell 1).trans rfl, hat.1, hat.2, fun w3 hb => ?_⟩
                    exact ⟨⟨v2, l2, sq, t, hq2.later hb, hr2.cut.later hb, HS.out.pop HQ.out.heap hp2, h0, by omega⟩, by have := SA.out.le; omega, SA.out.hH, hb2.trans (hb.mono hb2.size)⟩
                  have b1 : ¬ c = 0 := by omega
                  have b2 : 1 ≤ c := by omega
                  have b3 : (1 : Int) ≤ (c : Int) := by omega
                  have b4 : (0 : Int) ≤ (n : Int) := by omega
                  have t0 : decide ((0 : Int) < ((n + 1 : Nat) : Int)) = true := decide_eq_true (by omega)
                  clear hpa hhd hh1 hh2 hcm
                  rcases q34 with q3 | ⟨q3, q4⟩
                  · go_wp2_with fail
                    refine HN.out.mono ?_; rintro e w2 ⟨rfl, v2, l2, hq2, hl2, hp2, hc2⟩
                    obtain ⟨z1, z2, z3, z4⟩ := ST.out w2 v2 l2 hq2 hp2 hc2
                    have Z4 := Lib.hid z4
                    clear HN hq2 hl2 hp2 hc2 z4
                    go_upto_region 19 with fail
                    go_quiet (fail)
                    have RES2 := Lib.hid (Z4.out _ (below_draws (Below.refl _ _) nq))
                    by_cases hc1 : c = 1
                    · rw [if_pos hc1] at RES2
                      subst hc1
                      obtain rfl : n = 0 := by omega
                      go_wp2_with fail
                      go_meet
                      exact ⟨0, 0, _, rfl, RES2.out⟩
                    · rw [if_neg hc1] at RES2
                      go_wp2_with fail
                      go_meet
                      exact ⟨n, _, _, rfl, RES2.out⟩
                  · go_wp2_with fail
                    refine HN.out.mono ?_; rintro e w2 ⟨rfl, v2, l2, hq2, hl2, hp2, hc2⟩
                    obtain ⟨z1, z2, z3, z4⟩ := ST.out w2 v2 l2 hq2 hp2 hc2
                    have Z4 := Lib.hid z4
                    clear HN hq2 hl2 hp2 hc2 z4
                    go_upto_region 19 with fail
                    go_quiet (fail)
                    have RES2 := Lib.hid (Z4.out _ (below_draws (Below.refl _ _) nq))
                    by_cases hc1 : c = 1
                    · rw [if_pos hc1] at RES2
                      subst hc1
                      obtain rfl : n = 0 := by omega
                      go_wp2_with fail
                      go_meet
                      exact ⟨0, 0, _, rfl, RES2.out⟩
                    · rw [if_neg hc1] at RES2
                      go_wp2_with fail
                      go_meet
                      exact ⟨n, _, _, rfl, RES2.out⟩
                · have HN := Lib.hid (next_no a HQ.out (by rw [HLK.out]; omega) (by rw [HLK.out]; omega) (by rw [hh1]; omega))
                  have t1 : decide (pa ≤ a) = false := decide_eq_false hpa
                  have ST : Hid (∀ w2, Below wa.heap.size wa w2 → w2.cell? ⟨ob, 1, none⟩ = some (.int .i64 a) ∧ w2.cell? ⟨g1, o1, none⟩ = some (.int .i64 pa) ∧ ∀ w3, Below w2.heap.size w2 w3 → PlayI w H (n + 1) c (some ⟨g1, o1, none⟩) (i + 1) w3) := by
                    intro w2 hb2
                    have hat := (HRF.out.later hb2).at_ 0 (by simp)
                    refine ⟨((K0.out.below hb2 K0.out.lt).cell 1).trans rfl, hat.1, fun w3 hb => ?_⟩
                    have hb3 := hb2.trans (hb.mono hb2.size)
                    exact ⟨⟨v, l, sq, _, HQ.out.later hb3, HRF.out.later hb3, HS.out, h0, by omega⟩, by have := SA.out.le; omega, SA.out.hH, SA.out.below.trans (hb3.mono SA.out.below.size)⟩
                  have t0 : decide ((0 : Int) < ((n + 1 : Nat) : Int)) = true := decide_eq_true (by omega)
                  clear hpa hhd hh1 hh2 hcm
                  rcases q34 with q3 | ⟨q3, q4⟩
                  · go_wp2_with fail
                    refine HN.out.mono ?_; rintro e w2 ⟨rfl, hb2⟩
                    obtain ⟨z1, z2, z4⟩ := ST.out w2 hb2
                    have Z4 := Lib.hid z4
                    clear HN hb2 z4
                    go_upto_region 19 with fail
                    go_quiet (fail)
                    have RES2 := Lib.hid (Z4.out _ (below_draws (Below.refl _ _) nq))
                    go_wp2_with fail
                    go_meet
                    exact ⟨n + 1, c, _, rfl, RES2.out⟩
                  · go_wp2_with fail
                    refine HN.out.mono ?_; rintro e w2 ⟨rfl, hb2⟩
                    obtain ⟨z1, z2, z4⟩ := ST.out w2 hb2
                    have Z4 := Lib.hid z4
                    clear HN hb2 z4
                    go_upto_region 19 with fail
                    go_quiet (fail)
                    have RES2 := Lib.hid (Z4.out _ (below_draws (Below.refl _ _) nq))
                    go_wp2_with fail
                    go_meet
                    exact ⟨n + 1, c, _, rfl, RES2.out⟩
          · have q12 : decide (0 ≤ M) = false ∨ (decide (0 ≤ M) = true ∧ decide (M ≤ 2) = false) := by
              by_cases h : 0 ≤ M
              · exact Or.inr ⟨by simpa using h, by simp; omega⟩
              · exact Or.inl (by simp; omega)
            have q3 : (M == 3) = false := by simpa using p3
            have q4 : (M == 4) = false := by simpa using p4
            clear p1 p3 p4
            have HRR := Lib.hid (refRemove_any A' k c r id wa HRF.out (by omega))
            obtain ⟨m2, hm2⟩ : ∃ m2, (keepP id r).length = m2 := ⟨_, rfl⟩
            have hm2k : m2 ≤ k := by
              have h1 : (keepP id r).length ≤ r.length := List.length_filter_le _ _
              have h2 := HRF.out.1
              omega
            have HM2 := Lib.hid hm2
            rw [hm2] at HRR
            have HRM : Hid (∀ w2, Below wa.heap.size wa w2 → Calls Try.prog 11 #[.pointer (some ⟨H, 0, none⟩), .int .i64 id] w2 fun e w' => e = .returned (.int .i64 ((k : Int) - (m2 : Int))) ∧ ∃ v' l', QIs w' H w.heap.size v' l' sq ∧ Says l' (keepP id r) ∧ (∀ A2 c2, RefIs w2 A2 m2 c2 (keepP id r) → RefIs w' A2 m2 c2 (keepP id r)) ∧ Below w.heap.size w w') := by
              intro w2 hb2
              have hq2 := HQ.out.later hb2
              have hb02 := SA.out.below.trans (hb2.mono SA.out.below.size)
              rcases Nat.eq_zero_or_pos k with hk0 | hk0
              · have hl0 : l = [] := List.eq_nil_of_length_eq_zero (by rw [HLK.out]; exact hk0)
                have hr0 : r = [] := List.eq_nil_of_length_eq_zero (by rw [HRF.out.1]; exact hk0)
                subst hl0 hr0
                obtain rfl : m2 = 0 := HM2.out.symm
                subst hk0
                refine (remove_dead _ id hq2.dead).mono ?_
                rintro e w' ⟨rfl, hb⟩
                exact ⟨rfl, v, [], hq2.later hb, Says.nil, fun A2 c2 h => h.later hb, hb02.trans (hb.mono hb02.size)⟩
              · refine (remove_q id hq2 HLK.out hk0 (by omega)).mono ?_
                rintro e w' ⟨rfl, v', l', hq', hp', hc'⟩
                obtain ⟨hs1, hs2⟩ := HS.out.remove id hp'
                rw [hs2, HM2.out]
                exact ⟨rfl, v', l', hq', hs1, fun A2 c2 h => h.kept hc' hq2.not32, hq2.turn SA.out.hH hb02 hc'⟩
            have e1 : wrap64 ((k : Int) - (m2 : Int)) = (k : Int) - (m2 : Int) := IntWalk.wrap64_in _ (by omega)
            have e2 : IntKind.i64.wrap ((k : Int) - (m2 : Int)) = (k : Int) - (m2 : Int) := IntWalk.i64_in _ (by omega)
            clear hm2
            rcases q12 with q1 | ⟨q1, q2⟩
            · go_wp2_with fail
              refine HRR.out.mono ?_; rintro e w2 ⟨A2, c2, rfl, hr2, hb2⟩
              have HR2 := Lib.hid hr2
              have HRM2 := Lib.hid (HRM.out w2 hb2)
              have k2 : w2.cell? ⟨ob, 2, none⟩ = some (.int .i64 id) := ((K0.out.below hb2 K0.out.lt).cell 2).trans rfl
              clear hr2 hb2 HRR HRM k0 k1
              go_wp2_with fail
              refine HRM2.out.mono ?_; rintro e w3 ⟨rfl, v3, l3, hq3, hs3, hr3, hb3⟩
              have RES : Hid (PlayI w H m2 c2 A2 (i + 1) w3) := ⟨⟨v3, l3, sq, _, hq3, hr3 A2 c2 HR2.out, hs3, h0, by omega⟩, by have := SA.out.le; omega, SA.out.hH, hb3⟩
              clear hq3 hs3 hr3 hb3
              go_wp2_with fail
              go_meet
              exact ⟨m2, c2, A2, rfl, RES.out⟩
            · go_wp2_with fail
              refine HRR.out.mono ?_; rintro e w2 ⟨A2, c2, rfl, hr2, hb2⟩
              have HR2 := Lib.hid hr2
              have HRM2 := Lib.hid (HRM.out w2 hb2)
              have k2 : w2.cell? ⟨ob, 2, none⟩ = some (.int .i64 id) := ((K0.out.below hb2 K0.out.lt).cell 2).trans rfl
              clear hr2 hb2 HRR HRM k0 k1
              go_wp2_with fail
              refine HRM2.out.mono ?_; rintro e w3 ⟨rfl, v3, l3, hq3, hs3, hr3, hb3⟩
              have RES : Hid (PlayI w H m2 c2 A2 (i + 1) w3) := ⟨⟨v3, l3, sq, _, hq3, hr3 A2 c2 HR2.out, hs3, h0, by omega⟩, by have := SA.out.le; omega, SA.out.hH, hb3⟩
              clear hq3 hs3 hr3 hb3
              go_wp2_with fail
              go_meet
              exact ⟨m2, c2, A2, rfl, RES.out⟩
        case rest =>
        obtain ⟨k2, c2, A2, rfl, HI2⟩ := hcut
        clear SA K0 c A' k
        obtain ⟨v, l, sq, r, hq, hrf, hs, h0, h1⟩ := HI2.out.ex
        have hk2 := HI2.out.le
        have HQ := Lib.hid hq
        have HRF := Lib.hid hrf
        have HS := Lib.hid hs
        have hlk : l.length = k2 := hs.len.trans hrf.1
        have HLK := Lib.hid hlk
        clear hq hrf hs hlk
        have RES : Hid (∀ w2, Below wc.heap.size wc w2 → PlayI w H k2 c2 A2 (i + 1) w2) := fun w2 hb => HI2.out.later hb
        cases r with
        | nil =>
          have hk0 : k2 = 0 := by have := HRF.out.1; simpa using this.symm
          have hl0 : l = [] := List.eq_nil_of_length_eq_zero (by rw [HLK.out]; exact hk0)
          subst hk0 hl0
          have HP := Lib.hid (peek_dead _ HQ.out.dead)
          have HL := Lib.hid (len_q HQ.out)
          have HA := Lib.hid (all_dead _ HQ.out.dead)
          have HSM := Lib.hid (same_any none A2 0 0 c2 [] wc (RefIs.nil _) HRF.out (by omega))
          simp only [List.length_nil] at HL
          go_wp2_with fail
          refine HP.out.mono ?_; rintro e w2 ⟨rfl, rfl⟩
          go_wp2_with fail
          refine HL.out.mono ?_; rintro e w2 ⟨rfl, rfl⟩
          go_wp2_with fail
          refine HA.out.mono ?_; rintro e w2 ⟨rfl, rfl⟩
          go_wp2_with fail
          refine HSM.out.mono ?_; rintro e w2 ⟨rfl, hb2⟩
          have RES2 := Lib.hid (RES.out _ hb2)
          clear hb2
          go_wp2_with fail
          go_roundg (gk - 1)
          case rel => exact ⟨i + 1, 0, c2, A2, rfl, by go_num, by omega, by omega, by omega, RES2.out⟩
          case measure => omega
        | cons x t =>
          obtain ⟨pa, pb⟩ := x
          have hkp : 0 < k2 := by have := HRF.out.1; simp at this; omega
          rcases HRF.out.shape with ⟨_, _, hz, _⟩ | ⟨g1, o1, rfl⟩
          · omega
          · have hhd := HS.out.head HQ.out.heap
            have hh1 : (gx l 0).at_ = pa := congrArg Prod.fst hhd
            have hh2 : (gx l 0).id = pb := congrArg Prod.snd hhd
            have HP := Lib.hid (peek_q HQ.out (by rw [HLK.out]; exact hkp) (by rw [HLK.out]; omega))
            rw [hh1, hh2] at HP
            have t0 : decide ((0 : Int) < (k2 : Int)) = true := by simp; omega
            have b1 : (0 : Int) < (k2 : Int) := by omega
            clear hhd hh1 hh2
            go_wp2_with fail
            refine HP.out.mono ?_; rintro e w2 ⟨rfl, hb2⟩
            have hq2 := HQ.out.later hb2
            have hr2 := HRF.out.later hb2
            have HL := Lib.hid (len_q hq2)
            rw [HLK.out] at HL
            obtain ⟨x0, x1⟩ := hr2.at_ 0 (by simp)
            simp only [Nat.zero_mul, Nat.add_zero, List.getElem_cons_zero] at x0 x1
            have HA := Lib.hid (all_q hq2 HLK.out hkp (by omega))
            have RES2 : Hid (∀ w3, Below w2.heap.size w2 w3 → PlayI w H k2 c2 (some ⟨g1, o1, none⟩) (i + 1) w3) := fun w3 hb => RES.out _ (hb2.trans (hb.mono hb2.size))
            have HR2 := Lib.hid hr2
            clear hb2 hq2 hr2
            go_wp2_with fail
            refine HL.out.mono ?_; rintro e w3 ⟨rfl, rfl⟩
            go_wp2_with fail
            refine HA.out.mono ?_; rintro e w3 ⟨ov, dn, rfl, hp3, hs3, ho3, hb3⟩
            rw [HS.out.all hp3 hs3] at ho3
            obtain ⟨A3, c3, rfl⟩ := own_form ho3 (by decide) ho3.1
            have HSM := Lib.hid (same_any A3 (some ⟨g1, o1, none⟩) k2 c3 c2 _ w3 (RefIs.of_own ho3 HR2.out.1) (HR2.out.later hb3) (by omega))
            have RES3 : Hid (∀ w4, Below w3.heap.size w3 w4 → PlayI w H k2 c2 (some ⟨g1, o1, none⟩) (i + 1) w4) := fun w4 hb => RES2.out _ (hb3.trans (hb.mono hb3.size))
            clear hp3 hs3 ho3 hb3
            go_wp2_with fail
            refine HSM.out.mono ?_; rintro e w4 ⟨rfl, hb4⟩
            have RES4 := Lib.hid (RES3.out _ hb4)
            clear hb4
            go_wp2_with fail
            go_roundg (gk - 1)
            case rel => exact ⟨i + 1, k2, c2, _, rfl, by go_num, by omega, by omega, by omega, RES4.out⟩
            case measure => omega
      · obtain rfl : i = 100 := by omega
        go_wp2_with (go_at_call 16; refine (lives_any _).mono ?_; rintro e w1 ⟨rfl, h1⟩; have H1 := Lib.hid h1; clear h1)
        go_ret
        exact ⟨rfl, HI.out.below.trans (H1.out.mono HI.out.below.size)⟩
    · obtain rfl : i = len := by omega
      go_wp2_with (go_at_call 16; refine (lives_any _).mono ?_; rintro e w1 ⟨rfl, h1⟩; have H1 := Lib.hid h1; clear h1)
      go_ret
      exact ⟨rfl, HI.out.below.trans (H1.out.mono HI.out.below.size)⟩
end Go.Proofs.Ythcfgchlaagfkaa
