/-
  The walk of Push. No condition beyond a table of a length that lets it be copied.
-/
import Derived.Test.YtblnlmhkaacciaaPushL
import Derived.Deep.CutBlock
import Derived.Deep.DrawnRows
namespace Go.Proofs.Ytblnlmhkaacciaa
open Go.ChangeShapes Go.WideShapes Go.ChangeAt Go.RowKit
set_option linter.unusedVariables false
set_option linter.unusedSimpArgs false
attribute [local go_sem ↓] Go.wp_at_zero Go.wp_at_succ

theorem push_none (v t : Value) (now : Int) (w : World) (h : NoHist w v) : Calls Try.prog 7 #[v, .int .i64 now, t] w fun e w' => e = .returned (.int .i64 1) ∧ w = w' := by
  have HH := Lib.hid (may_none v now w h)
  clear h
  go_enter Try.func7, Try.ntmps7
  go_wp2_with fail
  refine HH.out.mono ?_; rintro e w' ⟨rfl, rfl⟩
  go_wp2
  go_ret
  exact ⟨rfl, rfl⟩
section
variable {H B : Nat} {v : Value} {vs : List Ver} {last : Int} {w : World}
theorem push_no (t : Value) (now : Int) (h : HistIs w H B v vs last) (hl : vs.length ≤ 1000) (hm : ¬ mayL vs now = 0) : Calls Try.prog 7 #[.pointer (some ⟨H, 0, none⟩), .int .i64 now, t] w fun e w' => e = .returned (.int .i64 (mayL vs now)) ∧ Below w.heap.size w w' := by
  have HH := Lib.hid (may_any now h hl)
  have t1 : (mayL vs now != 0) = true := by simpa using hm
  clear h hm
  generalize mayL vs now = x at *
  go_enter Try.func7, Try.ntmps7
  go_wp2_with fail
  refine HH.out.mono ?_; rintro e w' ⟨rfl, hb⟩
  have HB := Lib.hid hb
  clear hb
  go_wp2
  go_ret
  exact ⟨rfl, HB.out⟩
theorem NRow.kept {w w' : World} {A : Option Addr} {l : List Int} {S : Nat → Prop} (h : NRow w A l) (hc : Chg S w w') (hn : 0 < l.length → ∀ a, A = some a → ¬ S a.block) : NRow w' A l := fun hp => by
  obtain ⟨g, o, rfl, hg, hcell⟩ := h hp
  exact ⟨g, o, rfl, Nat.lt_of_lt_of_le hg hc.size, fun i hi => (hc.cell (p := ⟨g, o + i, none⟩) hg (hn hp ⟨g, o, none⟩ rfl)).trans (hcell i hi)⟩
def RowOf (H : Nat) (v v1 : Value) : Prop := ∀ k, OwnH H v1 k → OwnH H v k
set_option maxRecDepth 100000 in
set_option maxHeartbeats 3200000 in
theorem push_any (A : Option Addr) (n c : Nat) (tab : List Int) (now : Int) (h : HistIs w H B v vs last) (hl : vs.length ≤ 4) (hm : mayL vs now = 0) (hr : NRow w A tab) (hfar : 0 < n → ∀ a, A = some a → ¬ OwnH H v a.block) (hn : tab.length = n) (hx : n * 8 ≤ 140737488355328) (hla : 0 ≤ last ∧ last ≤ 1000000) :
    Calls Try.prog 7 #[.pointer (some ⟨H, 0, none⟩), .int .i64 now, .slice A n c] w fun e w' => ∃ v' p, e = .returned (.int .i64 0) ∧ HistIs w' H B v' (closeL now (dropOld vs) ++ [p]) (last + 1) ∧ p.num = last + 1 ∧ p.frm = now ∧ p.unt = -1 ∧ p.tab = tab ∧ Chg (OwnH H v) w w' ∧ ∀ k, v'.ownBlock = some k → v.ownBlock = some k ∨ w.heap.size ≤ k := by
  obtain ⟨i0, hi, hz0, hz1, hz2⟩ := info_parts info32
  have HZ := Lib.hid (And.intro hi (And.intro hz0 (And.intro hz1 hz2)))
  have HM := may_any now h (by omega)
  rw [hm] at HM
  have HMH := Lib.hid HM
  have HH := Lib.hid h
  have HR := Lib.hid hr
  have HFR := Lib.hid hfar
  have HTL := Lib.hid hn
  have HVL := Lib.hid hl
  clear HM h hm hr hfar hn hi hz0 hz1 hz2
  go_enter Try.func7, Try.ntmps7
  go_wp2_with fail
  refine HMH.out.mono ?_; rintro e w1 ⟨rfl, h1⟩
  have H1 := Lib.hid h1
  have N1 := Lib.hid (HH.out.later h1)
  have HF := Lib.hid (full_any N1.out)
  clear h1
  go_wp2_with fail
  refine HF.out.mono ?_; rintro e w' ⟨rfl, rfl⟩
  go_upto_if 16 with fail
  go_cut [] (fun wx => Hid (∃ v1, HistIs wx H B v1 (dropOld vs) last ∧ Chg (OwnH H v) w wx ∧ RowOf H v v1))
  case first =>
    by_cases h4 : 4 ≤ vs.length
    · have t1 : decide (4 ≤ vs.length) = true := decide_eq_true h4
      obtain ⟨p, t, hvs⟩ : ∃ p t, vs = p :: t := by
        cases vs with
        | nil => simp at h4
        | cons p t => exact ⟨p, t, rfl⟩
      have ht : t.length = 3 := by have := HVL.out; rw [hvs] at this h4; simp at this h4; omega
      have n1 := N1.out
      obtain ⟨g, c', rfl, _⟩ := n1.some_ (by omega)
      have hv4 : vs.length = 4 := by have := HVL.out; omega
      rw [hv4, hvs] at n1
      have hrow := n1.row
      rw [show (p :: t).length = 4 by simp; omega] at hrow
      have HD := Lib.hid (delete_any B g c' p t w1 hrow ht)
      have HDR := Lib.hid (fun w2 (hc : Chg (fun k => k = g) w1 w2) (hr : w2.ownsRow B 32 4 (.slice (some ⟨g, 0, none⟩) 3 c') 3 (flatV t)) => n1.dropped ht hc hr)
      have k1 : w1.cell? ⟨H, 1, none⟩ = some (.slice (some ⟨g, 0, none⟩) 4 c') := (n1.blk.cell 1).trans rfl
      have HDO : Hid (dropOld vs = t) := by unfold Hid dropOld; rw [if_pos h4, hvs]; rfl
      have HV4 := Lib.hid hv4
      clear ht n1 hrow hv4 hvs HF
      go_wp2_with fail
      refine HD.out.mono ?_; rintro e w2 ⟨rfl, hrow2, hc2⟩
      obtain ⟨q1, q2, q3⟩ := HDR.out w2 hc2 hrow2
      have x1 : w2.cell? ⟨H, 1, none⟩ = some (.slice (some ⟨g, 0, none⟩) 4 c') := (q1.cell 1).trans rfl
      have f1 := q1.free 1
      have Q2 := Lib.hid q2
      have Q3 := Lib.hid q3
      clear q1 q2 q3 hrow2 hc2
      go_wp2_with fail
      go_meet
      refine ⟨_, by rw [HDO.out]; exact Q2.out, (Chg.of_below H1.out).trans Q3.out (fun k _ e => ?_), fun k e => ?_⟩
      · rcases e with e | e
        · exact Or.inl e
        · exact Or.inr (by simpa [Value.ownBlock] using e)
      · rcases e with e | e
        · exact Or.inl e
        · exact Or.inr (by simpa [Value.ownBlock] using e)
    · have t1 : decide (4 ≤ vs.length) = false := decide_eq_false h4
      have HDO : Hid (dropOld vs = vs) := by unfold Hid dropOld; rw [if_neg h4]
      go_wp2_with fail
      go_meet
      exact ⟨v, by rw [HDO.out]; exact N1.out, Chg.of_below H1.out, fun k e => e⟩
  case rest =>
  have HDL : Hid ((dropOld vs).length ≤ 3) := dropOld_len HVL.out
  obtain ⟨v1, hA, hB, hC⟩ := hcut.out
  obtain ⟨us, hus⟩ : ∃ us, dropOld vs = us := ⟨_, rfl⟩
  rw [hus] at hA HDL
  have HUS := Lib.hid hus
  have HA := Lib.hid hA
  have HBC := Lib.hid hB
  have HRO := Lib.hid hC
  obtain ⟨A1, c1, rfl⟩ := hA.form
  obtain ⟨m, hm⟩ : ∃ m, us.length = m := ⟨_, rfl⟩
  have k1 : wc.cell? ⟨H, 1, none⟩ = some (.slice A1 us.length c1) := (hA.blk.cell 1).trans rfl
  have hdl := HDL.out
  rw [hm] at k1 hdl
  have HMM := Lib.hid hm
  clear hcut hA hB hC hus hm N1 H1 HMH HF HH HVL HDL
  go_upto_if 31 with fail
  go_cut [] (fun wx => Hid (∃ v2, HistIs wx H B v2 (closeL now us) last ∧ Chg (OwnH H v) w wx ∧ RowOf H v v2))
  case first =>
    by_cases h0 : 0 < m
    · have ha := HA.out
      have hmm := HMM.out
      rw [hmm] at ha
      obtain ⟨g, c', e1, hc', _, hg, hc2, hcell⟩ := HA.out.some_ (by omega)
      rw [hmm] at e1 hc'
      rw [e1] at ha k1
      obtain ⟨t, p, hut⟩ : ∃ t p, us = t ++ [p] := by
        rcases List.eq_nil_or_concat us with h | ⟨t, p, h⟩
        · rw [h] at hmm; simp at hmm; omega
        · exact ⟨t, p, by rw [h, List.concat_eq_append]⟩
      have hmt : m = t.length + 1 := by rw [← hmm, hut]; simp
      rw [hut, hmt] at ha
      obtain ⟨q1, q2, q3, q4⟩ := ha.closed now
      obtain ⟨k, hk⟩ : ∃ k, t.length = k := ⟨_, rfl⟩
      rw [hk] at hmt q1 q2 q3 q4
      obtain ⟨y, hy⟩ := Option.isSome_iff_exists.1 q1
      subst hmt
      have HCU : Hid (closeL now us = t ++ [p.shut now]) := by unfold Hid; rw [hut, closeL_snoc]
      have HQ3 := Lib.hid q3
      have HQ4 := Lib.hid q4
      have HRO2 : Hid (RowOf H v (.slice (some ⟨g, 0, none⟩) (k + 1) c')) := by
        have := HRO.out
        rw [hmm, e1] at this
        exact this
      have b2 : (0 : Int) ≤ (k : Int) := by omega
      clear ha hmm e1 hcell hut hk q1 q3 q4 hc2
      go_wp2_with fail
      go_meet
      exact ⟨_, by rw [HCU.out]; exact HQ3.out, HBC.out.trans HQ4.out (fun k' _ e => HRO2.out k' e), HRO2.out⟩
    · obtain rfl : m = 0 := by omega
      have hus : us = [] := List.eq_nil_of_length_eq_zero HMM.out
      have HCU : Hid (closeL now us = us) := by unfold Hid; rw [hus]; rfl
      clear hus
      go_wp2_with fail
      go_meet
      exact ⟨_, by rw [HCU.out]; exact HA.out, HBC.out, HRO.out⟩
  case rest =>
  have HCL2 : Hid ((closeL now us).length ≤ 3) := by unfold Hid; rw [closeL_len, HMM.out]; exact hdl
  obtain ⟨v2, hA, hB, hC⟩ := hcut.out
  obtain ⟨xs, hxs⟩ : ∃ xs, closeL now us = xs := ⟨_, rfl⟩
  have HXS : Hid (closeL now (dropOld vs) = xs) := by unfold Hid; rw [HUS.out, hxs]
  rw [hxs] at hA HCL2
  obtain ⟨A2, c2, rfl⟩ := hA.form
  obtain ⟨m2, hm2⟩ : ∃ m2, xs.length = m2 := ⟨_, rfl⟩
  have HM2 := Lib.hid hm2
  have k2 : wc.cell? ⟨H, 2, none⟩ = some (.int .i64 last) := (hA.blk.cell 2).trans rfl
  have f2 := hA.blk.free 2
  have hm3 : m2 ≤ 3 := by rw [← hm2]; exact HCL2.out
  have hC2 := hA.counted (last + 1)
  have N3 := Lib.hid hC2.1
  have B3 := Lib.hid (hB.trans hC2.2 (fun k _ e => hC k e))
  have RO3 := Lib.hid hC
  have hrow := HR.out.kept B3.out (fun h => HFR.out (by rw [← HTL.out]; exact h))
  clear hcut hA hB hC hxs HA HBC HRO HUS HMM k1 hdl HCL2 hC2
  rw [hm2] at N3 RO3
  clear hm2
  have HROW := Lib.hid hrow
  clear hrow
  go_upto_region 10 with fail
  obtain ⟨w3, hw3⟩ : ∃ w3, wc.setCell ⟨H, 2, none⟩ (.int .i64 (last + 1)) = w3 := ⟨_, rfl⟩
  rw [hw3] at N3 B3 HROW ⊢
  clear hw3 k2 f2
  have HCL := Lib.hid (clone_any A n c tab w3.drew (show NRow w3.drew A tab from HROW.out) HTL.out hx)
  have x1 : w3.drew.cell? ⟨H, 1, none⟩ = some (.slice A2 m2 c2) := N3.out.blk.cell 1
  have x2 : w3.drew.cell? ⟨H, 2, none⟩ = some (.int .i64 (last + 1)) := N3.out.blk.cell 2
  have HBL : Hid (B ≤ w3.heap.size) := N3.out.le
  have HST : Hid (∀ (W4 : World) (A' : Option Addr) (c' : Nat), Tab W4 w3.drew.heap.size (.slice A' n c') tab → Below w3.drew.heap.size w3.drew W4 →
      HistIs W4 H B (.slice A2 m2 c2) xs (last + 1) ∧ HistIs (W4.alloc (.cells #[.int .i64 (last + 1), .int .i64 now, .int .i64 (-1), .slice A' n c'] 32)) H B (.slice A2 m2 c2) xs (last + 1) ∧
      Ver.lies (W4.alloc (.cells #[.int .i64 (last + 1), .int .i64 now, .int .i64 (-1), .slice A' n c'] 32)) B ⟨last + 1, now, -1, A', c', tab⟩ ∧ w3.heap.size ≤ W4.heap.size) := by
    intro W4 A' c' ht hb
    have h4 : HistIs W4 H B (.slice A2 m2 c2) xs (last + 1) := N3.out.later ((Below.refl _ _).drew.trans hb)
    have hal : Below W4.heap.size W4 (W4.alloc (.cells #[.int .i64 (last + 1), .int .i64 now, .int .i64 (-1), .slice A' n c'] 32)) := (Below.refl _ _).alloc (Nat.le_refl _) _
    refine ⟨h4, h4.later hal, ⟨?_, by have := HTL.out; (show tab.length * 8 ≤ _); omega⟩, hb.size⟩
    unfold Ver.sl
    rw [HTL.out]
    exact own_later (own_base ht HBL.out) hal
  have HFV : Hid (∀ (A' : Option Addr) (c' : Nat), flatV [(⟨last + 1, now, -1, A', c', tab⟩ : Ver)] = [.int .i64 (last + 1), .int .i64 now, .int .i64 (-1), .slice A' n c']) := by
    intro A' c'
    rw [flatV_single]
    unfold Ver.val Ver.sl
    rw [HTL.out]
  go_region_law
    (first
      | (go_simp; go_at_call 20; refine Calls.mono HCL.out ?_; rintro e W4 ⟨A', c', rfl, ht, hb⟩; obtain ⟨s1, s2, s3, s4⟩ := HST.out W4 A' c' ht hb; have y1 : W4.cell? ⟨H, 1, none⟩ = some (.slice A2 m2 c2) := s1.blk.cell 1; have y2 : W4.cell? ⟨H, 2, none⟩ = some (.int .i64 (last + 1)) := s1.blk.cell 2; have S2 := Lib.hid s2; have S3 := Lib.hid s3; have z1 : (W4.alloc (.cells #[.int .i64 (last + 1), .int .i64 now, .int .i64 (-1), .slice A' n c'] 32)).cell? ⟨H, 1, none⟩ = some (.slice A2 m2 c2) := s2.blk.cell 1; have z2 : (W4.alloc (.cells #[.int .i64 (last + 1), .int .i64 now, .int .i64 (-1), .slice A' n c'] 32)).cell? ⟨H, 2, none⟩ = some (.int .i64 (last + 1)) := s2.blk.cell 2; have HB4 := Lib.hid hb; clear s1 s2 s3 s4 ht hb)
      | (refine step_append_lies _ rfl _ _ 25 rfl B 32 i0 _ 4 48 Try.underlying25 HZ.out.1 HZ.out.2.1 HZ.out.2.2.1 HZ.out.2.2.2 rfl (by decide) (.slice A2 m2 c2) m2 (flatV xs) rfl (by (have := S2.out.row; rwa [HM2.out] at this)) ⟨W4.heap.size, 0, none⟩ 1 1 [.int .i64 (last + 1), .int .i64 now, .int .i64 (-1), .slice A' n c'] rfl rfl cells4 (by (rw [← HFV.out A' c']; exact flatV_one)) (by omega) (by unfold maxLen; omega) (by omega) S2.out.le _ rfl ?_; intro g3 c3 w5 hown hgrow hblk hlt; have R := Lib.hid (HistIs.grows (v' := .slice (some ⟨g3, 0, none⟩) (m2 + 1) c3) S2.out S3.out (by (rw [flatV_append, HFV.out]; exact hown)) (by (rw [List.length_append, HM2.out]; rfl)) hgrow); have HBK := Lib.hid hblk; clear hown hgrow hblk hlt; have k5 : w5.cell? ⟨H, 1, none⟩ = some (.slice A2 m2 c2) := R.out.1.cell 1; have f5 := R.out.1.free 1; have k6 : w5.cell? ⟨H, 2, none⟩ = some (.int .i64 (last + 1)) := R.out.1.cell 2)
      | fail)
  all_goals
    go_wp2_with fail
    go_ret
    have d1 : Below w3.heap.size w3 (W4.alloc (.cells #[.int .i64 (last + 1), .int .i64 now, .int .i64 (-1), .slice A' n c'] 32)) := ((Below.refl _ _).drew.trans HB4.out).alloc HB4.out.size _
    have d2 : Chg (OwnH H v) w (W4.alloc (.cells #[.int .i64 (last + 1), .int .i64 now, .int .i64 (-1), .slice A' n c'] 32)) := B3.out.trans (Chg.of_below (S := fun _ => False) d1) (fun _ _ h => h.elim)
    refine ⟨_, ⟨last + 1, now, -1, A', c', tab⟩, rfl, by rw [HXS.out]; exact R.out.2.1, rfl, rfl, rfl, rfl, d2.trans R.out.2.2 (fun k _ e => RO3.out k e), fun k hk => ?_⟩
    have hk' : g3 = k := by simpa [Value.ownBlock] using hk
    subst hk'
    have hB := (R.out.2.1.row.lt g3 rfl).1
    have hH := R.out.2.1.lt
    rcases HBK.out with e | e
    · rcases RO3.out g3 (Or.inr e) with e2 | e2
      · omega
      · exact Or.inl e2
    · refine Or.inr ?_
      have h1 := B3.out.size
      have h2 := HB4.out.size
      have h3 : w3.drew.heap.size = w3.heap.size := rfl
      simp at e
      omega
end
end Go.Proofs.Ytblnlmhkaacciaa
