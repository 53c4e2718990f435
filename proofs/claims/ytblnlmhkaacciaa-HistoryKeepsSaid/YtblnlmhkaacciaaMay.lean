/-
  The walks of may and Free. No condition.
-/
import Derived.Test.YtblnlmhkaacciaaHist
namespace Go.Proofs.Ytblnlmhkaacciaa
open Go.ChangeShapes Go.WideShapes Go.ChangeAt Go.RowKit
set_option linter.unusedVariables false
set_option linter.unusedSimpArgs false

/-- Why no version may be pushed. -/
def mayL (vs : List Ver) (now : Int) : Int :=
  if now < 0 then 2 else if 0 < vs.length ∧ now < lastFrm vs then 2 else if 4 ≤ vs.length ∧ wrap64 (now - headUnt vs) < 16 then 11 else 0
theorem may_none (v : Value) (now : Int) (w : World) (h : NoHist w v) : Calls Try.prog 17 #[v, .int .i64 now] w fun e w' => e = .returned (.int .i64 1) ∧ w = w' := by
  have HH := Lib.hid h
  clear h
  go_enter Try.func17, Try.ntmps17
  go_wp2_with fail
  refine (is_none _ _ HH.out).mono ?_; rintro e w' ⟨rfl, rfl⟩
  go_wp2
  go_ret
  exact ⟨rfl, rfl⟩
theorem free_none (v : Value) (now : Int) (w : World) (h : NoHist w v) : Calls Try.prog 11 #[v, .int .i64 now] w fun e w' => e = .returned (.bool false) ∧ w = w' := by
  have HH := Lib.hid (may_none v now w h)
  clear h
  go_enter Try.func11, Try.ntmps11
  go_wp2_with fail
  refine HH.out.mono ?_; rintro e w' ⟨rfl, rfl⟩
  go_wp2
  go_ret
  exact ⟨rfl, rfl⟩
section
variable {H B : Nat} {v : Value} {vs : List Ver} {last : Int} {w : World}
set_option maxHeartbeats 1600000 in
theorem may_neg (now : Int) (h : HistIs w H B v vs last) (hn : now < 0) : Calls Try.prog 17 #[.pointer (some ⟨H, 0, none⟩), .int .i64 now] w fun e w' => e = .returned (.int .i64 2) ∧ Below w.heap.size w w' := by
  have HIS := Lib.hid (is_blk H true _ _ _ h.blk)
  have t1 : decide (now < 0) = true := decide_eq_true hn
  clear h
  go_enter Try.func17, Try.ntmps17
  go_wp2_with fail
  refine HIS.out.mono ?_; rintro e w' ⟨rfl, rfl⟩
  go_wp2_with fail
  go_quiet (fail)
  go_wp2_with fail
  go_ret
  exact ⟨rfl, below_draws (Below.refl _ _) _⟩
set_option maxHeartbeats 1600000 in
theorem may_nil (now : Int) (h : HistIs w H B v [] last) (hn : 0 ≤ now) : Calls Try.prog 17 #[.pointer (some ⟨H, 0, none⟩), .int .i64 now] w fun e w' => e = .returned (.int .i64 0) ∧ Below w.heap.size w w' := by
  obtain ⟨A, c, rfl⟩ := h.form
  have c1 : w.cell? ⟨H, 1, none⟩ = some (.slice A 0 c) := h.blk.cell 1
  have HIS := Lib.hid (is_blk H true _ _ _ h.blk)
  have HF := Lib.hid (fun W (hb : Below w.heap.size w W) => full_any (h.later hb))
  have t1 : decide (now < 0) = false := decide_eq_false (by omega)
  clear h
  go_enter Try.func17, Try.ntmps17
  go_wp2_with fail
  refine HIS.out.mono ?_; rintro e w' ⟨rfl, rfl⟩
  go_wp2_with fail
  go_quiet (fail)
  go_wp2_with (go_at_call 18; refine (HF.out _ (below_draws (Below.refl _ _) _)).mono ?_; rintro e w' ⟨rfl, rfl⟩)
  go_ret
  exact ⟨rfl, below_draws (Below.refl _ _) _⟩
set_option maxHeartbeats 1600000 in
theorem may_some (now : Int) (h : HistIs w H B v vs last) (hn : 0 ≤ now) (hp : 0 < vs.length) (hl : vs.length ≤ 1000) : Calls Try.prog 17 #[.pointer (some ⟨H, 0, none⟩), .int .i64 now] w fun e w' => e = .returned (.int .i64 (if now < lastFrm vs then 2 else if 4 ≤ vs.length ∧ wrap64 (now - headUnt vs) < 16 then 11 else 0)) ∧ Below w.heap.size w w' := by
  have HIS := Lib.hid (is_blk H true _ _ _ h.blk)
  have HF := Lib.hid (fun W (hb : Below w.heap.size w W) => full_any (h.later hb))
  have HNE := Lib.hid (fun W (hb : Below w.heap.size w W) => needed_any now (h.later hb) hp)
  obtain ⟨g, c, rfl, hc, hg, hg2, hc2, hcell⟩ := h.some_ hp
  obtain ⟨m, hm⟩ : ∃ m, vs.length = m + 1 := ⟨vs.length - 1, by omega⟩
  have c1 : w.drew.cell? ⟨H, 1, none⟩ = some (.slice (some ⟨g, 0, none⟩) vs.length c) := h.blk.cell 1
  have c2 : w.drew.cell? ⟨g, m * 4 + 1, none⟩ = some (.int .i64 (lastFrm vs)) := by
    refine hcell (m * 4 + 1) _ ?_
    rw [(flatV_at vs m (by omega)).2.1]
    unfold lastFrm
    rw [List.getLast?_eq_getElem?, show vs.length - 1 = m by omega, List.getElem?_eq_getElem (by omega)]; rfl
  obtain ⟨f, hf⟩ : ∃ f, lastFrm vs = f := ⟨_, rfl⟩
  obtain ⟨u, hu⟩ : ∃ u, wrap64 (now - headUnt vs) = u := ⟨_, rfl⟩
  rw [hf] at c2 ⊢
  rw [hu] at HNE ⊢
  rw [hm] at c1 HF hc hl ⊢
  have t1 : decide (now < 0) = false := decide_eq_false (by omega)
  have b1 : IntKind.i64.wrap (((m + 1 : Nat) : Int) - 1) = (m : Int) := by rw [Int.natCast_add]; exact (IntWalk.i64_in _ (by omega)).trans (by omega)
  have b2 : (0 : Int) ≤ (m : Int) := by omega
  have b3 : (m : Int) < (m : Int) + 1 := by omega
  have b4 : IntKind.i64.wrap ((m : Int) + 1 - 1) = (m : Int) := (IntWalk.i64_in _ (by omega)).trans (by omega)
  have k1 : w.cell? ⟨H, 1, none⟩ = some (.slice (some ⟨g, 0, none⟩) (m + 1) c) := c1
  have k2 : w.cell? ⟨g, m * 4 + 1, none⟩ = some (.int .i64 f) := c2
  clear h hcell hf hu hm hp
  by_cases h1 : now < f
  · have t2 : decide (now < f) = true := decide_eq_true h1
    go_enter Try.func17, Try.ntmps17
    go_wp2_with fail
    refine HIS.out.mono ?_; rintro e w' ⟨rfl, rfl⟩
    go_wp2_with fail
    go_quiet (fail)
    go_wp2_with fail
    go_ret
    exact ⟨rfl, below_draws (Below.refl _ _) _⟩
  · have t2 : decide (now < f) = false := decide_eq_false h1
    have t2b : f ≤ now := by omega
    by_cases h2 : 4 ≤ m + 1
    · have t3 : decide (4 ≤ m + 1) = true := decide_eq_true h2
      by_cases h3 : u < 16
      · have t4 : decide (u < 16) = true := decide_eq_true h3
        rw [t3] at HF
        rw [t4] at HNE
        rw [if_neg h1, if_pos ⟨h2, h3⟩]
        clear h1 h2 h3 t3 t4
        go_enter Try.func17, Try.ntmps17
        go_wp2_with fail
        refine HIS.out.mono ?_; rintro e w' ⟨rfl, rfl⟩
        go_wp2_with fail
        go_quiet (fail)
        go_wp2_with (first | (go_at_call 18; refine (HF.out _ (below_draws (Below.refl _ _) _)).mono ?_; rintro e w' ⟨rfl, rfl⟩) | (go_at_call 26; refine (HNE.out _ (below_draws (Below.refl _ _) _)).mono ?_; rintro e w' ⟨rfl, rfl⟩))
        go_ret
        exact ⟨rfl, below_draws (Below.refl _ _) _⟩
      · have t4 : decide (u < 16) = false := decide_eq_false h3
        rw [t3] at HF
        rw [t4] at HNE
        rw [if_neg h1, if_neg (fun h => h3 h.2)]
        clear h1 h2 h3 t3 t4
        go_enter Try.func17, Try.ntmps17
        go_wp2_with fail
        refine HIS.out.mono ?_; rintro e w' ⟨rfl, rfl⟩
        go_wp2_with fail
        go_quiet (fail)
        go_wp2_with (first | (go_at_call 18; refine (HF.out _ (below_draws (Below.refl _ _) _)).mono ?_; rintro e w' ⟨rfl, rfl⟩) | (go_at_call 26; refine (HNE.out _ (below_draws (Below.refl _ _) _)).mono ?_; rintro e w' ⟨rfl, rfl⟩))
        go_ret
        exact ⟨rfl, below_draws (Below.refl _ _) _⟩
    · have t3 : decide (4 ≤ m + 1) = false := decide_eq_false h2
      rw [t3] at HF
      rw [if_neg h1, if_neg (fun h => h2 h.1)]
      clear h1 h2 t3
      go_enter Try.func17, Try.ntmps17
      go_wp2_with fail
      refine HIS.out.mono ?_; rintro e w' ⟨rfl, rfl⟩
      go_wp2_with fail
      go_quiet (fail)
      go_wp2_with (go_at_call 18; refine (HF.out _ (below_draws (Below.refl _ _) _)).mono ?_; rintro e w' ⟨rfl, rfl⟩)
      go_ret
      exact ⟨rfl, below_draws (Below.refl _ _) _⟩
theorem may_any (now : Int) (h : HistIs w H B v vs last) (hl : vs.length ≤ 1000) : Calls Try.prog 17 #[.pointer (some ⟨H, 0, none⟩), .int .i64 now] w fun e w' => e = .returned (.int .i64 (mayL vs now)) ∧ Below w.heap.size w w' := by
  by_cases hn : now < 0
  · have e : mayL vs now = 2 := by unfold mayL; rw [if_pos hn]
    rw [e]
    exact may_neg now h hn
  · by_cases hp : 0 < vs.length
    · have e : mayL vs now = if now < lastFrm vs then 2 else if 4 ≤ vs.length ∧ wrap64 (now - headUnt vs) < 16 then 11 else 0 := by
        unfold mayL
        rw [if_neg hn]
        by_cases h1 : now < lastFrm vs
        · rw [if_pos ⟨hp, h1⟩, if_pos h1]
        · rw [if_neg (fun h => h1 h.2), if_neg h1]
      rw [e]
      exact may_some now h (by omega) hp hl
    · obtain rfl : vs = [] := List.eq_nil_of_length_eq_zero (by omega)
      have e : mayL [] now = 0 := by unfold mayL; rw [if_neg hn]; simp
      rw [e]
      exact may_nil now h (by omega)
theorem free_any (now : Int) (h : HistIs w H B v vs last) (hl : vs.length ≤ 1000) : Calls Try.prog 11 #[.pointer (some ⟨H, 0, none⟩), .int .i64 now] w fun e w' => e = .returned (.bool (mayL vs now == 0)) ∧ Below w.heap.size w w' := by
  have HH := Lib.hid (may_any now h hl)
  clear h
  generalize mayL vs now = x at *
  go_enter Try.func11, Try.ntmps11
  go_wp2_with fail
  refine HH.out.mono ?_; rintro e w' ⟨rfl, hb⟩
  have HB := Lib.hid hb
  clear hb
  go_wp2
  go_ret
  exact ⟨rfl, HB.out⟩
end
end Go.Proofs.Ytblnlmhkaacciaa
