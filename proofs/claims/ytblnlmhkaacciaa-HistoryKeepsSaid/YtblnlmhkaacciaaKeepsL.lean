/-
  What is pushed and what is kept: the plain law behind HistoryKeeps. No program in sight; no condition.
-/
import Derived.Test.YtblnlmhkaacciaaPlays
namespace Go.Proofs.Ytblnlmhkaacciaa
open Go.RowKit
set_option linter.unusedVariables false
set_option linter.unusedSimpArgs false

def lastF (L : List Say) : Int := (L.getLast?.map (fun x => x.2.1)).getD 0
theorem closeS_snoc (now : Int) (t : List Say) (p : Say) : closeS now (t ++ [p]) = t ++ [shutS now p] := by
  unfold closeS
  rw [List.dropLast_concat, List.getLast?_append]
  simp
theorem closeS_append (now : Int) (D L : List Say) (h : L ≠ []) : closeS now (D ++ L) = D ++ closeS now L := by
  rcases List.eq_nil_or_concat L with rfl | ⟨t, p, rfl⟩
  · exact absurd rfl h
  · rw [List.concat_eq_append, ← List.append_assoc, closeS_snoc, closeS_snoc, List.append_assoc]
theorem lastF_snoc (t : List Say) (p : Say) : lastF (t ++ [p]) = p.2.1 := by unfold lastF; rw [List.getLast?_append]; simp
/-- What was pushed, and what is kept of it. -/
structure Kept (A L : List Say) : Prop where
  from_ : ∃ D, A = D ++ L ∧ (L = [] → D = []) ∧ ∀ d ∈ D, 0 ≤ d.2.2.1 ∧ 16 ≤ lastF L - d.2.2.1
  shut : ∀ x ∈ L.dropLast, 0 ≤ x.2.2.1 ∧ x.2.2.1 ≤ lastF L
  pos : 0 ≤ lastF L ∧ lastF L ≤ 9223372036854775807
theorem Kept.nil : Kept [] [] := ⟨⟨[], rfl, fun _ => rfl, by simp⟩, by simp, by unfold lastF; simp⟩
theorem mayS_ok {L : List Say} {now : Int} (h : mayS L now = 0) : 0 ≤ now ∧ (L ≠ [] → lastF L ≤ now) ∧ (∀ x t, L = x :: t → 4 ≤ L.length → 16 ≤ wrap64 (now - x.2.2.1)) := by
  unfold mayS at h
  split at h
  · omega
  · rename_i h1
    split at h
    · omega
    · rename_i h2
      split at h
      · omega
      · rename_i h3
        refine ⟨by omega, fun hn => ?_, fun x t e h4 => ?_⟩
        · have hp : 0 < L.length := List.length_pos_iff.2 hn
          have : ¬ now < lastF L := fun h => h2 ⟨hp, h⟩
          omega
        · subst e
          have : ¬ wrap64 (now - x.2.2.1) < 16 := fun h => h3 ⟨h4, h⟩
          omega
theorem Kept.push {A L : List Say} {last now : Int} {tab : List Int} (h : Kept A L) (hm : mayS L now = 0) (hl : L.length ≤ 4) (hnow : now ≤ 9223372036854775807) :
    Kept (closeS now A ++ [(last + 1, now, -1, tab)]) (pushS L last now tab) := by
  obtain ⟨h0, h1, h2⟩ := mayS_ok hm
  obtain ⟨⟨D, hA, hD0, hD⟩, hsh, hpos⟩ := h
  have hlast : lastF (pushS L last now tab) = now := by unfold pushS; rw [lastF_snoc]
  have hdl : (pushS L last now tab).dropLast = closeS now (dropS L) := by unfold pushS; rw [List.dropLast_concat]
  refine ⟨?_, ?_, by rw [hlast]; exact ⟨h0, hnow⟩⟩
  · rw [hlast]
    by_cases hL : L = []
    · have hDn := hD0 hL
      subst hL hDn
      subst hA
      exact ⟨[], rfl, fun _ => rfl, by simp⟩
    · have hle := h1 hL
      by_cases h4 : 4 ≤ L.length
      · obtain ⟨x, t, rfl⟩ : ∃ x t, L = x :: t := by
          cases L with
          | nil => exact absurd rfl hL
          | cons x t => exact ⟨x, t, rfl⟩
        have ht : t ≠ [] := by
          intro e
          subst e
          simp at h4
        have hx := hsh x (by
          cases t with
          | nil => exact absurd rfl ht
          | cons y s => simp)
        have hw := h2 x t rfl h4
        rw [IntWalk.wrap64_in _ (by omega)] at hw
        refine ⟨D ++ [x], ?_, fun e => by unfold pushS at e; simp at e, fun d hd => ?_⟩
        · unfold pushS dropS
          rw [if_pos h4, hA, closeS_append now D _ hL]
          have : closeS now (x :: t) = x :: closeS now t := closeS_append now [x] t ht
          rw [this]
          simp
        · rcases List.mem_append.1 hd with hd | hd
          · have := hD d hd
            omega
          · rw [List.mem_singleton.1 hd]
            omega
      · refine ⟨D, ?_, fun e => by unfold pushS at e; simp at e, fun d hd => ?_⟩
        · unfold pushS dropS
          rw [if_neg h4, hA, closeS_append now D _ hL, List.append_assoc]
        · have := hD d hd
          omega
  · rw [hlast, hdl]
    intro x hx
    have hsub : ∀ y ∈ (dropS L).dropLast, 0 ≤ y.2.2.1 ∧ y.2.2.1 ≤ now := by
      intro y hy
      have hy2 : y ∈ L.dropLast := by
        unfold dropS at hy
        split at hy
        · rename_i h4
          rw [List.dropLast_eq_take, List.length_drop] at hy
          rw [List.dropLast_eq_take]
          rw [← List.drop_take] at hy
          exact List.mem_of_mem_drop hy
        · exact hy
      have h5 := hsh y hy2
      have hne : L ≠ [] := by
        intro e
        subst e
        simp at hy2
      have := h1 hne
      omega
    rcases List.eq_nil_or_concat (dropS L) with e | ⟨t, p, e⟩
    · rw [e] at hx
      simp [closeS] at hx
    · rw [e, List.concat_eq_append, closeS_snoc] at hx
      rw [e, List.concat_eq_append, List.dropLast_concat] at hsub
      rcases List.mem_append.1 hx with hx | hx
      · exact hsub x hx
      · rw [List.mem_singleton.1 hx]
        exact ⟨h0, Int.le_refl _⟩
theorem Kept.found {A L : List Say} {x : Say} (h : Kept A L) (hx : x ∈ A) (hs : ¬ (0 ≤ x.2.2.1 ∧ 16 ≤ wrap64 (lastF L - x.2.2.1))) : x ∈ L := by
  obtain ⟨⟨D, hA, _, hD⟩, _, hpos⟩ := h
  rw [hA] at hx
  rcases List.mem_append.1 hx with hx | hx
  · have h1 := hD x hx
    exact absurd ⟨h1.1, by rw [IntWalk.wrap64_in _ (by omega)]; exact h1.2⟩ hs
  · exact hx
theorem pushS_last (L : List Say) (last now : Int) (tab : List Int) : lastF (pushS L last now tab) = now := by unfold pushS; rw [lastF_snoc]
/-- Is it the same version? -/
def hitV (x q : Ver) : Bool := q.num == x.num && (q.unt == x.unt && decide (q.tab = x.tab))
theorem any_succ (l : List Ver) (f : Ver → Bool) (i : Nat) (h : i < l.length) : (l.take (i + 1)).any f = ((l.take i).any f || f l[i]) := by
  rw [List.take_add_one, List.getElem?_eq_getElem h, List.any_append]
  simp only [Option.toList_some, List.any_cons, List.any_nil, Bool.or_false]
theorem any_of_mem {qs : List Ver} {x : Ver} (h : x.says ∈ sayV qs) : qs.any (hitV x) = true := by
  obtain ⟨q, hq, e⟩ := List.mem_map.1 h
  refine List.any_eq_true.2 ⟨q, hq, ?_⟩
  unfold Ver.says at e
  injection e with e1 e
  injection e with e2 e
  injection e with e3 e4
  simp [hitV, e1, e3, e4]
end Go.Proofs.Ytblnlmhkaacciaa
