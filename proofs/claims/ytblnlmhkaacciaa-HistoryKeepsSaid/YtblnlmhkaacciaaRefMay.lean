/-
  The walk of the document's May; what its list of versions is. No condition.
-/
import Derived.Test.YtblnlmhkaacciaaSteps
namespace Go.Proofs.Ytblnlmhkaacciaa
open Go.ChangeShapes Go.WideShapes Go.ChangeAt Go.RowKit
set_option linter.unusedVariables false
set_option linter.unusedSimpArgs false

/-- The document's list of versions. -/
def RefIs (w : World) (B : Nat) (v : Value) (rs : List Ver) : Prop := w.ownsRow B 60 4 v rs.length (flatV rs) ∧ ∀ p ∈ rs, p.lies w B
theorem RefIs.later {w v : World} {B : Nat} {x : Value} {rs : List Ver} (h : RefIs w B x rs) (hb : Below w.heap.size w v) : RefIs v B x rs := ⟨own_later h.1 hb, fun p hp => (h.2 p hp).later hb⟩
theorem RefIs.form {w : World} {B : Nat} {v : Value} {rs : List Ver} (h : RefIs w B v rs) : ∃ A c, v = .slice A rs.length c := own_form h.1 (by decide) (flatV_len rs)
theorem RefIs.some_ {w : World} {B n c : Nat} {A : Option Addr} {rs : List Ver} (h : RefIs w B (.slice A n c) rs) (hn : rs.length = n) (hp : 0 < n) : ∃ g, A = some ⟨g, 0, none⟩ ∧ B ≤ g ∧ n ≤ c ∧ g < w.heap.size ∧ ∀ j u, (flatV rs)[j]? = some u → w.cell? ⟨g, j, none⟩ = some u := by
  have h1 := h.1
  rw [hn] at h1
  obtain ⟨g, rfl, hB, hc, cs, hb, hcell⟩ := own_cell h1 hp
  refine ⟨g, rfl, hB, hc, hb.lt, fun j u hj => ?_⟩
  have hl : j < n * 4 := by
    have := (List.getElem?_eq_some_iff.1 hj).1
    rwa [flatV_len, hn] at this
  rw [hb.cell, hcell j hl]
  exact hj
set_option maxHeartbeats 1600000 in
theorem refMay_any (A : Option Addr) (n c B : Nat) (rs : List Ver) (now : Int) (w : World) (h : RefIs w B (.slice A n c) rs) (hn : rs.length = n) (hl : n ≤ 4) :
    Calls Try.prog 22 #[.slice A n c, .int .i64 now] w fun e w' => e = .returned (.int .i64 (mayL rs now)) ∧ w = w' := by
  by_cases h0 : now < 0
  · have e : mayL rs now = 2 := by unfold mayL; rw [if_pos h0]
    rw [e]
    have t1 : decide (now < 0) = true := decide_eq_true h0
    clear h e
    go_enter Try.func22, Try.ntmps22
    go_wp2_with fail
    go_ret
    exact ⟨rfl, rfl⟩
  · have t1 : decide (now < 0) = false := decide_eq_false h0
    have t1b : 0 ≤ now := by omega
    by_cases hp : 0 < n
    · obtain ⟨m, rfl⟩ : ∃ m, n = m + 1 := ⟨n - 1, by omega⟩
      obtain ⟨g, rfl, hB, hc, hg, hcell⟩ := h.some_ hn hp
      have c2 : w.cell? ⟨g, m * 4 + 1, none⟩ = some (.int .i64 (lastFrm rs)) := by
        refine hcell (m * 4 + 1) _ ?_
        rw [(flatV_at rs m (by omega)).2.1]
        unfold lastFrm
        rw [List.getLast?_eq_getElem?, show rs.length - 1 = m by omega, List.getElem?_eq_getElem (by omega)]; rfl
      have c3 : w.cell? ⟨g, 2, none⟩ = some (.int .i64 (headUnt rs)) := by
        refine hcell 2 _ ?_
        have := (flatV_at rs 0 (by omega)).2.2.1
        rw [Nat.zero_mul, Nat.zero_add] at this
        rw [this]
        unfold headUnt
        rw [List.head?_eq_getElem?, List.getElem?_eq_getElem (by omega)]; rfl
      have e : mayL rs now = if now < lastFrm rs then 2 else if 4 ≤ m + 1 ∧ wrap64 (now - headUnt rs) < 16 then 11 else 0 := by
        unfold mayL
        rw [if_neg h0, hn]
        by_cases h1 : now < lastFrm rs
        · rw [if_pos ⟨hp, h1⟩, if_pos h1]
        · rw [if_neg (fun h => h1 h.2), if_neg h1]
      rw [e]
      generalize lastFrm rs = f at *
      generalize headUnt rs = hu at *
      have b2 : (0 : Int) ≤ (m : Int) := by omega
      clear h hcell e hp hn
      by_cases h1 : now < f
      · have t2 : decide (now < f) = true := decide_eq_true h1
        rw [if_pos h1]
        go_enter Try.func22, Try.ntmps22
        go_wp2_with fail
        go_ret
        exact ⟨rfl, rfl⟩
      · have t2 : decide (now < f) = false := decide_eq_false h1
        have t2b : f ≤ now := by omega
        rw [if_neg h1]
        by_cases h4 : m = 3
        · subst h4
          by_cases h5 : wrap64 (now - hu) < 16
          · have t5 : decide (wrap64 (now - hu) < 16) = true := decide_eq_true h5
            rw [if_pos ⟨by omega, h5⟩]
            go_enter Try.func22, Try.ntmps22
            go_wp2_with fail
            all_goals first | (exfalso; omega) | (go_ret; exact ⟨rfl, rfl⟩)
          · have t5 : decide (wrap64 (now - hu) < 16) = false := decide_eq_false h5
            rw [if_neg (fun h => h5 h.2)]
            go_enter Try.func22, Try.ntmps22
            go_wp2_with fail
            all_goals first | (exfalso; omega) | (go_ret; exact ⟨rfl, rfl⟩)
        · have t5 : (((m : Int) + 1) == 4) = false := by simp; omega
          rw [if_neg (fun h => h4 (by have := h.1; omega))]
          go_enter Try.func22, Try.ntmps22
          go_wp2_with fail
          all_goals first | (exfalso; omega) | (go_ret; exact ⟨rfl, rfl⟩)
    · obtain rfl : n = 0 := by omega
      obtain rfl : rs = [] := List.eq_nil_of_length_eq_zero hn
      have e : mayL [] now = 0 := by unfold mayL; rw [if_neg h0]; simp
      rw [e]
      clear h e
      go_enter Try.func22, Try.ntmps22
      go_wp2_with fail
      go_ret
      exact ⟨rfl, rfl⟩
end Go.Proofs.Ytblnlmhkaacciaa
