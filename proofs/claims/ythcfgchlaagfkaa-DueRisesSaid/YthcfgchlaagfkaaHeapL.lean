/-
  Heaps as lists: the plain law. No program in sight; no condition.
-/
import Derived.Test.YthcfgchlaagfkaaEnds
namespace Go.Proofs.Ythcfgchlaagfkaa
open Go.RowKit
set_option linter.unusedVariables false
set_option linter.unusedSimpArgs false

def zeroI : It := ⟨0, 0, 0⟩
def gx (l : List It) (k : Nat) : It := l.getD k zeroI
theorem gx_at (l : List It) (k : Nat) (h : k < l.length) : gx l k = l[k] := by simp [gx, h]
/-- Not behind. -/
def leI (x y : It) : Prop := lessB y x = false
theorem leI_iff (x y : It) : leI x y ↔ (x.at_ < y.at_ ∨ (x.at_ = y.at_ ∧ (x.id < y.id ∨ (x.id = y.id ∧ x.seq ≤ y.seq)))) := by
  unfold leI lessB
  by_cases h1 : y.at_ = x.at_
  · by_cases h2 : y.id = x.id
    · simp [h1, h2]
    · simp [h1, h2]; omega
  · simp [h1]; omega
theorem leI_trans {x y z : It} (h1 : leI x y) (h2 : leI y z) : leI x z := by
  rw [leI_iff] at *; omega
theorem leI_refl (x : It) : leI x x := by rw [leI_iff]; omega
theorem leI_total (x y : It) : leI x y ∨ leI y x := by rw [leI_iff, leI_iff]; omega
theorem less_le {x y : It} (h : lessB x y = true) : leI x y := by
  rcases leI_total x y with h1 | h1
  · exact h1
  · unfold leI at h1; rw [h1] at h; cases h
theorem notless_le {x y : It} (h : lessB x y = false) : leI y x := h
theorem leI_antisymm {x y : It} (h1 : leI x y) (h2 : leI y x) : x = y := by
  obtain ⟨a, b, c⟩ := x
  obtain ⟨d, e, f⟩ := y
  rw [leI_iff] at h1 h2
  simp only at h1 h2
  simp only [It.mk.injEq]
  omega
theorem swapL_len (l : List It) (i k : Nat) (x y : It) : (swapL l i k x y).length = l.length := by simp [swapL]
theorem swapL_gx (l : List It) (i k m : Nat) (hi : i < l.length) (hk : k < l.length) : gx (swapL l i k l[i] l[k]) m = if m = k then gx l i else if m = i then gx l k else gx l m := by
  unfold swapL gx
  simp only [List.getD_eq_getElem?_getD, List.getElem?_set]
  by_cases h1 : k = m
  · subst h1
    simp [hk, hi]
  · by_cases h2 : i = m
    · subst h2
      simp [h1, hi, hk, Ne.symm h1]
    · simp [h1, h2, Ne.symm h1, Ne.symm h2]
theorem swapL_perm (l : List It) (i k : Nat) (hi : i < l.length) (hk : k < l.length) : (swapL l i k l[i] l[k]).Perm l := by
  classical
  rw [List.perm_iff_count]
  intro a
  unfold swapL
  rw [List.count_set (by simpa using hk), List.count_set hi]
  rw [List.getElem_set]
  by_cases hik : i = k
  · subst hik
    simp only [if_true]
    have := List.count_pos_iff (a := l[i]) (l := l)
    by_cases ha : l[i] = a
    · have hc : 0 < l.count a := List.count_pos_iff.2 (ha ▸ List.getElem_mem hi)
      simp [ha]; omega
    · simp [ha]
  · rw [if_neg hik]
    have c1 : l[i] = a → 0 < l.count a := fun e => List.count_pos_iff.2 (e ▸ List.getElem_mem hi)
    have c2 : l[k] = a → 0 < l.count a := fun e => List.count_pos_iff.2 (e ▸ List.getElem_mem hk)
    by_cases h1 : l[i] = a
    · by_cases h2 : l[k] = a
      · have := c1 h1
        simp [h1, h2]; omega
      · have := c1 h1
        simp [h1, h2]; omega
    · by_cases h2 : l[k] = a
      · have := c2 h2
        simp [h1, h2]
      · simp [h1, h2]
def par (k : Nat) : Nat := (k - 1) / 2
/-- Below n, from the parent i on, no child comes ahead of its parent. -/
def HeapFrom (l : List It) (i n : Nat) : Prop := ∀ k, 0 < k → k < n → i ≤ par k → leI (gx l (par k)) (gx l k)
def IsHeap (l : List It) : Prop := HeapFrom l 0 l.length
/-- A heap but for j and its parent. -/
def AlmostUp (l : List It) (j : Nat) : Prop := (∀ k, 0 < k → k < l.length → k ≠ j → leI (gx l (par k)) (gx l k)) ∧ ∀ k, 0 < k → k < l.length → par k = j → 0 < j → leI (gx l (par j)) (gx l k)
theorem AlmostUp.root {l : List It} (h : AlmostUp l 0) : IsHeap l := fun k h1 h2 _ => h.1 k h1 h2 (by omega)
theorem AlmostUp.stop {l : List It} {j : Nat} (h : AlmostUp l j) (hl : leI (gx l (par j)) (gx l j)) : IsHeap l := fun k h1 h2 _ => by
  by_cases hk : k = j
  · subst hk; exact hl
  · exact h.1 k h1 h2 hk
theorem AlmostUp.step {l : List It} {j : Nat} (h : AlmostUp l j) (hj : j < l.length) (h0 : 0 < j) (hl : leI (gx l j) (gx l (par j))) : AlmostUp (swapL l (par j) j (l[par j]'(by unfold par; omega)) l[j]) (par j) := by
  have hp : par j < l.length := by unfold par; omega
  have hpj : par j < j := by unfold par; omega
  have hg := fun m => swapL_gx l (par j) j m hp hj
  refine ⟨fun k h1 h2 h3 => ?_, fun k h1 h2 h3 h4 => ?_⟩
  · rw [swapL_len] at h2
    rw [hg, hg]
    by_cases hk : k = j
    · subst hk
      rw [if_pos rfl, if_neg (by omega), if_pos rfl]
      exact hl
    · rw [if_neg hk, if_neg h3]
      by_cases hpk : par k = j
      · rw [if_pos hpk]
        exact h.2 k h1 h2 hpk h0
      · rw [if_neg hpk]
        by_cases hpp : par k = par j
        · rw [if_pos hpp]
          have := h.1 k h1 h2 hk
          rw [hpp] at this
          exact leI_trans hl this
        · rw [if_neg hpp]
          exact h.1 k h1 h2 hk
  · rw [swapL_len] at h2
    rw [hg, hg]
    have hpp : par (par j) ≠ j := by unfold par at *; omega
    have hpp2 : par (par j) ≠ par j := by unfold par at *; omega
    have hgp := h.1 (par j) h4 hp (by omega)
    rw [if_neg hpp, if_neg hpp2]
    by_cases hk : k = j
    · rw [if_pos hk]; exact hgp
    · rw [if_neg hk]
      by_cases hk2 : k = par j
      · exfalso
        rw [hk2] at h3
        exact hpp2 h3
      · rw [if_neg hk2]
        have := h.1 k h1 h2 hk
        rw [h3] at this
        exact leI_trans hgp this
/-- A heap from i0 on, below n, but for i and its children. -/
def AlmostDown (l : List It) (i0 i n : Nat) : Prop := (∀ k, 0 < k → k < n → i0 ≤ par k → par k ≠ i → leI (gx l (par k)) (gx l k)) ∧ (i0 < i → ∀ k, 0 < k → k < n → par k = i → i0 ≤ par i → leI (gx l (par i)) (gx l k))
theorem AlmostDown.start {l : List It} {i0 n : Nat} (h : HeapFrom l (i0 + 1) n) : AlmostDown l i0 i0 n :=
  ⟨fun k h1 h2 h3 h4 => h k h1 h2 (by omega), fun h => absurd h (by omega)⟩
theorem AlmostDown.leaf {l : List It} {i0 i n : Nat} (h : AlmostDown l i0 i n) (hn : n ≤ 2 * i + 1) : HeapFrom l i0 n := fun k h1 h2 h3 => h.1 k h1 h2 h3 (by unfold par; omega)
theorem AlmostDown.stop {l : List It} {i0 i n j : Nat} (h : AlmostDown l i0 i n) (hj : leI (gx l i) (gx l j)) (hm : ∀ k, 0 < k → k < n → par k = i → leI (gx l j) (gx l k)) : HeapFrom l i0 n := fun k h1 h2 h3 => by
  by_cases hk : par k = i
  · rw [hk]; exact leI_trans hj (hm k h1 h2 hk)
  · exact h.1 k h1 h2 h3 hk
theorem AlmostDown.step {l : List It} {i0 i n j : Nat} (h : AlmostDown l i0 i n) (hi0 : i0 ≤ i) (hn : n ≤ l.length) (hjn : j < n) (hj0 : 0 < j) (hpj : par j = i) (hl : leI (gx l j) (gx l i)) (hm : ∀ k, 0 < k → k < n → par k = i → leI (gx l j) (gx l k)) :
    AlmostDown (swapL l i j (l[i]'(by unfold par at hpj; omega)) (l[j]'(by omega))) i0 j n := by
  have hij : i < j := by unfold par at hpj; omega
  have hg := fun m => swapL_gx l i j m (by omega) (by omega)
  refine ⟨fun k h1 h2 h3 h4 => ?_, fun h0 k h1 h2 h3 h4 => ?_⟩
  · rw [hg, hg, if_neg h4]
    by_cases hk : k = j
    · subst hk
      rw [if_pos rfl, if_pos hpj]
      exact hl
    · rw [if_neg hk]
      by_cases hki : k = i
      · subst hki
        rw [if_pos rfl, if_neg (by unfold par at *; omega)]
        exact h.2 (by unfold par at *; omega) j hj0 hjn hpj h3
      · rw [if_neg hki]
        by_cases hpi : par k = i
        · rw [if_pos hpi]
          exact hm k h1 h2 hpi
        · rw [if_neg hpi]
          exact h.1 k h1 h2 h3 hpi
  · rw [hg, hg, hpj, if_neg (by omega), if_pos rfl]
    have hkj : k ≠ j := by unfold par at *; omega
    have hki : k ≠ i := by unfold par at *; omega
    rw [if_neg hkj, if_neg hki]
    have := h.1 k h1 h2 (by rw [h3]; omega) (by rw [h3]; omega)
    rw [h3] at this
    exact this
theorem child {k i : Nat} (h0 : 0 < k) (h : par k = i) : k = 2 * i + 1 ∨ k = 2 * i + 2 := by unfold par at h; omega
theorem par_1 (i : Nat) : par (2 * i + 1) = i := by unfold par; omega
theorem par_2 (i : Nat) : par (2 * i + 2) = i := by unfold par; omega
/-- The first of a heap comes ahead of all. -/
theorem heap_min {l : List It} (h : IsHeap l) : ∀ k, k < l.length → leI (gx l 0) (gx l k) := by
  intro k
  induction k using Nat.strongRecOn with
  | _ k ih =>
    intro hk
    rcases Nat.eq_zero_or_pos k with h0 | h0
    · subst h0; exact leI_refl _
    · exact leI_trans (ih (par k) (by unfold par; omega) (by unfold par; omega)) (h k h0 hk (Nat.zero_le _))
theorem HeapFrom.of_le {l : List It} {i n m : Nat} (h : HeapFrom l i n) (hm : m ≤ n) : HeapFrom l i m := fun k h1 h2 h3 => h k h1 (by omega) h3
end Go.Proofs.Ythcfgchlaagfkaa
