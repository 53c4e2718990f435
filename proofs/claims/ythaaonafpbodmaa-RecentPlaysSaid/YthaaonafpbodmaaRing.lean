/-
  The plain law of the ring: links both ways along a list. No program here.
-/
import Derived.Test.YthaaonafpbodmaaBase
namespace Go.Proofs.Ythaaonafpbodmaa
set_option linter.unusedVariables false

/-- 'up' is the number that follows, 'dn' the one ahead. -/
def Links (up dn : Nat → Int) : Nat → List Nat → Nat → Prop
  | a, [], z => up a = z ∧ dn z = a
  | a, b :: l, z => up a = b ∧ dn b = a ∧ Links up dn b l z
def set1 (f : Nat → Int) (i : Nat) (v : Int) : Nat → Int := fun j => if j = i then v else f j
theorem set1_same (f : Nat → Int) (i : Nat) (v : Int) : set1 f i v i = v := by simp [set1]
theorem set1_other (f : Nat → Int) {i j : Nat} (v : Int) (h : j ≠ i) : set1 f i v j = f j := by simp [set1, h]

theorem Links.append {up dn : Nat → Int} : ∀ {p : List Nat} {a b z : Nat} {q : List Nat}, Links up dn a (p ++ b :: q) z ↔ Links up dn a p b ∧ Links up dn b q z
  | [], a, b, z, q => by simp only [List.nil_append, Links]; exact ⟨fun h => ⟨⟨h.1, h.2.1⟩, h.2.2⟩, fun h => ⟨h.1.1, h.1.2, h.2⟩⟩
  | c :: p, a, b, z, q => by
    simp only [List.cons_append, Links]
    rw [Links.append (p := p)]
    exact ⟨fun h => ⟨⟨h.1, h.2.1, h.2.2.1⟩, h.2.2.2⟩, fun h => ⟨h.1.1, h.1.2.1, h.1.2.2, h.2⟩⟩
theorem Links.congr {up dn up' dn' : Nat → Int} : ∀ {l : List Nat} {a z : Nat}, Links up dn a l z → (∀ i, i = a ∨ i ∈ l → up' i = up i) → (∀ i, i = z ∨ i ∈ l → dn' i = dn i) → Links up' dn' a l z
  | [], a, z, h, h1, h2 => ⟨(h1 a (Or.inl rfl)).trans h.1, (h2 z (Or.inl rfl)).trans h.2⟩
  | b :: l, a, z, h, h1, h2 => ⟨(h1 a (Or.inl rfl)).trans h.1, (h2 b (Or.inr (by simp))).trans h.2.1,
      h.2.2.congr (fun i hi => h1 i (Or.inr (by rcases hi with rfl | hi <;> simp_all))) (fun i hi => h2 i (hi.imp id fun hi => by simp_all))⟩

/-- What the arrays hold for the list l of numbers under n. -/
structure Ring (n : Nat) (up dn : Nat → Int) (l : List Nat) : Prop where
  links : Links up dn n l n
  nodup : l.Nodup
  lt : ∀ i ∈ l, i < n
  out : ∀ i, i < n → i ∉ l → up i = -1 ∧ dn i = -1

theorem Ring.empty (n : Nat) (up dn : Nat → Int) (h1 : up n = n) (h2 : dn n = n) (h : ∀ i, i < n → up i = -1 ∧ dn i = -1) : Ring n up dn [] :=
  ⟨⟨h1, h2⟩, by simp, by simp, fun i hi _ => h i hi⟩
/-- The first one, or the ring's own. -/
def hd (n : Nat) (l : List Nat) : Nat := l.headD n
def lst (n : Nat) (l : List Nat) : Nat := l.getLastD n
theorem Links.up_hd {up dn : Nat → Int} {a z : Nat} {l : List Nat} (h : Links up dn a l z) : up a = (l.headD z : Nat) := by
  cases l with
  | nil => exact h.1
  | cons b l => exact h.1
theorem Links.dn_lst {up dn : Nat → Int} : ∀ {l : List Nat} {a z : Nat}, Links up dn a l z → dn z = (l.getLastD a : Nat)
  | [], a, z, h => h.2
  | b :: l, a, z, h => by
    rw [h.2.2.dn_lst]
    cases l <;> simp [List.getLast?_cons]
theorem Ring.first {n : Nat} {up dn : Nat → Int} {l : List Nat} (h : Ring n up dn l) {i : Nat} (hi : i < n) (hn : i ∉ l) :
    Ring n (set1 (set1 up n i) i (hd n l)) (set1 (set1 dn i n) (hd n l) i) (i :: l) := by
  have hin : i ≠ n := by omega
  refine ⟨?_, ?_, ?_, ?_⟩
  · refine ⟨by rw [set1_other _ _ (Ne.symm hin), set1_same], ?_, ?_⟩
    · have : i ≠ hd n l := by
        unfold hd
        cases l with
        | nil => exact hin
        | cons b l => intro e; simp at e; simp [e] at hn
      rw [set1_other _ _ this, set1_same]
    · have hl := h.links
      have hnd := h.nodup
      have hlt := h.lt
      cases l with
      | nil => exact ⟨set1_same _ _ _, set1_same _ _ _⟩
      | cons b l =>
        obtain ⟨h1, h2, h3⟩ := hl
        simp only [List.mem_cons, not_or] at hn
        rw [List.nodup_cons] at hnd
        refine ⟨set1_same _ _ _, set1_same _ _ _, h3.congr (fun j hj => ?_) (fun j hj => ?_)⟩
        · have hji : j ≠ i := by rcases hj with rfl | hj; exact Ne.symm hn.1; intro e; exact hn.2 (e ▸ hj)
          have hjn : j ≠ n := by
            rcases hj with rfl | hj
            · have := hlt j (by simp); omega
            · have := hlt j (by simp [hj]); omega
          rw [set1_other _ _ hji, set1_other _ _ hjn]
        · have hjb : j ≠ b := by
            rcases hj with rfl | hj
            · have := hlt b (by simp); omega
            · intro e; exact hnd.1 (e ▸ hj)
          have hji : j ≠ i := by
            rcases hj with rfl | hj
            · exact Ne.symm hin
            · intro e; exact hn.2 (e ▸ hj)
          show set1 (set1 dn i n) b i j = dn j
          rw [set1_other _ _ hjb, set1_other _ _ hji]
  · exact List.nodup_cons.2 ⟨hn, h.nodup⟩
  · intro j hj
    rcases List.mem_cons.1 hj with rfl | hj
    · exact hi
    · exact h.lt j hj
  · intro j hj hjl
    simp only [List.mem_cons, not_or] at hjl
    have hb : j ≠ hd n l := by
      unfold hd
      cases l with
      | nil => simp; omega
      | cons b l => intro e; simp at e; simp [e] at hjl
    rw [set1_other _ _ hjl.1, set1_other _ _ (by omega), set1_other _ _ hb, set1_other _ _ hjl.1]
    exact h.out j hj hjl.2

theorem Links.cut {up dn : Nat → Int} {i z : Nat} {q : List Nat} : ∀ {p : List Nat} {a0 : Nat}, Links up dn a0 p i → Links up dn i q z → (a0 :: (p ++ i :: q)).Nodup → z ∉ p ++ i :: q →
    Links (set1 (set1 up (p.getLastD a0) (q.headD z : Nat)) i (-1)) (set1 (set1 dn (q.headD z) (p.getLastD a0 : Nat)) i (-1)) a0 (p ++ q) z
  | [], a0, hp, hq, hnd, hz => by
    simp only [List.nil_append, List.nodup_cons, List.mem_cons, not_or] at hnd hz ⊢
    cases q with
    | nil => exact ⟨by rw [set1_other _ _ hnd.1.1]; exact set1_same _ _ _, by rw [set1_other _ _ hz.1]; exact set1_same _ _ _⟩
    | cons c q =>
      simp only [List.mem_cons, not_or, List.nodup_cons] at hnd hz
      refine ⟨by rw [set1_other _ _ hnd.1.1]; exact set1_same _ _ _, by rw [set1_other _ _ (Ne.symm hnd.2.1.1)]; exact set1_same _ _ _, hq.2.2.congr (fun j hj => ?_) (fun j hj => ?_)⟩
      · have h1 : j ≠ i := by rcases hj with rfl | hj; exact Ne.symm hnd.2.1.1; intro e; exact hnd.2.1.2 (e ▸ hj)
        have h2 : j ≠ a0 := by rcases hj with rfl | hj; exact Ne.symm hnd.1.2.1; intro e; exact hnd.1.2.2 (e ▸ hj)
        rw [set1_other _ _ h1]
        exact set1_other _ _ h2
      · have h1 : j ≠ i := by rcases hj with rfl | hj; exact hz.1; intro e; exact hnd.2.1.2 (e ▸ hj)
        have h2 : j ≠ c := by rcases hj with rfl | hj; exact hz.2.1; intro e; exact hnd.2.2.1 (e ▸ hj)
        rw [set1_other _ _ h1]
        exact set1_other _ _ h2
  | c :: p, a0, hp, hq, hnd, hz => by
    have hnd' := hnd
    simp only [List.cons_append, List.nodup_cons, List.mem_cons, List.mem_append, not_or] at hnd hz
    have e : (c :: p).getLastD a0 = p.getLastD c := by cases p <;> simp [List.getLast?_cons]
    rw [e]
    have r := Links.cut (p := p) (a0 := c) hp.2.2 hq (List.nodup_cons.1 hnd').2 (by simp only [List.mem_append, List.mem_cons, not_or]; exact hz.2)
    have hlast : p.getLastD c ≠ a0 := by
      intro e2
      have hm : p.getLastD c = c ∨ p.getLastD c ∈ p := by
        cases p with
        | nil => exact Or.inl rfl
        | cons d p => right; simp [List.getLastD, List.getLast_mem]
      rcases hm with hm | hm
      · exact hnd.1.1 (by rw [← e2, hm])
      · exact hnd.1.2.1 (e2 ▸ hm)
    have hhead : c ≠ q.headD z := by
      intro e2
      cases q with
      | nil => exact hz.1 e2.symm
      | cons d q => simp at e2; exact hnd.2.1.2.2 (by simp [e2])
    refine ⟨?_, ?_, r⟩
    · rw [set1_other _ _ hnd.1.2.2.1, set1_other _ _ (Ne.symm hlast)]
      exact hp.1
    · rw [set1_other _ _ hnd.2.1.2.1, set1_other _ _ hhead]
      exact hp.2.1

theorem getLastD_mem (p : List Nat) (n : Nat) : p.getLastD n = n ∨ p.getLastD n ∈ p := by
  cases p with
  | nil => exact Or.inl rfl
  | cons d p => right; simp [List.getLastD, List.getLast_mem]
theorem headD_mem (p : List Nat) (n : Nat) : p.headD n = n ∨ p.headD n ∈ p := by
  cases p with
  | nil => exact Or.inl rfl
  | cons d p => right; simp
def less (l : List Nat) (i : Nat) : List Nat := l.filter (fun j => decide (j ≠ i))
theorem Ring.cut {n : Nat} {up dn : Nat → Int} {l : List Nat} (h : Ring n up dn l) {i : Nat} (hi : i ∈ l) :
    ∃ a b : Nat, dn i = a ∧ up i = b ∧ a ≤ n ∧ b ≤ n ∧ a ≠ i ∧ b ≠ i ∧ Ring n (set1 (set1 up a b) i (-1)) (set1 (set1 dn b a) i (-1)) (less l i) := by
  have hlt := h.lt
  have hnd := h.nodup
  have hout := h.out
  have hln := h.links
  obtain ⟨p, q, rfl⟩ := List.append_of_mem hi
  obtain ⟨hp, hq⟩ := Links.append.1 hln
  have hil : i < n := hlt i (by simp)
  have hnot : n ∉ p ++ i :: q := fun hm => by have := hlt n hm; omega
  have hless : less (p ++ i :: q) i = p ++ q := by
    have h1 : ∀ j ∈ p, j ≠ i := fun j hj e => by
      rw [List.nodup_append] at hnd
      exact hnd.2.2 j hj i (by simp) e
    have h2 : ∀ j ∈ q, j ≠ i := fun j hj e => by
      rw [List.nodup_append, List.nodup_cons] at hnd
      exact hnd.2.1.1 (e ▸ hj)
    unfold less
    rw [List.filter_append, List.filter_cons]
    simp only [ne_eq, not_true_eq_false, decide_false, Bool.false_eq_true, if_false]
    rw [List.filter_eq_self.2 (fun j hj => by simpa using h1 j hj), List.filter_eq_self.2 (fun j hj => by simpa using h2 j hj)]
  have ha : p.getLastD n = n ∨ p.getLastD n ∈ p ++ i :: q := (getLastD_mem p n).imp id fun hm => List.mem_append_left _ hm
  have hb : q.headD n = n ∨ q.headD n ∈ p ++ i :: q := (headD_mem q n).imp id fun hm => List.mem_append_right _ (List.mem_cons_of_mem _ hm)
  have hai : p.getLastD n ≠ i := by
    rcases getLastD_mem p n with e | e
    · omega
    · intro e2
      rw [List.nodup_append] at hnd
      exact hnd.2.2 _ e i (by simp) e2
  have hbi : q.headD n ≠ i := by
    rcases headD_mem q n with e | e
    · omega
    · intro e2
      rw [List.nodup_append, List.nodup_cons] at hnd
      exact hnd.2.1.1 (e2 ▸ e)
  refine ⟨p.getLastD n, q.headD n, hp.dn_lst, hq.up_hd, ?_, ?_, hai, hbi, ?_⟩
  · rcases ha with e | e
    · omega
    · have := hlt _ e; omega
  · rcases hb with e | e
    · omega
    · have := hlt _ e; omega
  rw [hless]
  refine ⟨Links.cut hp hq (List.nodup_cons.2 ⟨hnot, hnd⟩) hnot, ?_, ?_, ?_⟩
  · rw [← hless]; exact hnd.filter _
  · intro j hj
    exact hlt j (by rw [List.mem_append] at hj ⊢; exact hj.imp id (List.mem_cons_of_mem _))
  · intro j hj hjl
    by_cases hji : j = i
    · subst hji
      exact ⟨set1_same _ _ _, set1_same _ _ _⟩
    · have hjn : j ∉ p ++ i :: q := by
        simp only [List.mem_append, List.mem_cons, not_or] at hjl ⊢
        exact ⟨hjl.1, hji, hjl.2⟩
      have h1 : j ≠ p.getLastD n := by rcases ha with e | e; omega; intro e2; exact hjn (e2 ▸ e)
      have h2 : j ≠ q.headD n := by rcases hb with e | e; omega; intro e2; exact hjn (e2 ▸ e)
      rw [set1_other _ _ hji, set1_other _ _ hji, set1_other _ _ h1, set1_other _ _ h2]
      exact hout j hj hjn
/-- Whether a number is linked. -/
theorem Ring.less_len {n : Nat} {up dn : Nat → Int} {l : List Nat} (h : Ring n up dn l) {i : Nat} (hi : i ∈ l) : (less l i).length + 1 = l.length := by
  have hnd := h.nodup
  obtain ⟨p, q, rfl⟩ := List.append_of_mem hi
  have h1 : ∀ j ∈ p, j ≠ i := fun j hj e => by
    rw [List.nodup_append] at hnd
    exact hnd.2.2 j hj i (by simp) e
  have h2 : ∀ j ∈ q, j ≠ i := fun j hj e => by
    rw [List.nodup_append, List.nodup_cons] at hnd
    exact hnd.2.1.1 (e ▸ hj)
  unfold less
  rw [List.filter_append, List.filter_cons]
  simp only [ne_eq, not_true_eq_false, decide_false, Bool.false_eq_true, if_false]
  rw [List.filter_eq_self.2 (fun j hj => by simpa using h1 j hj), List.filter_eq_self.2 (fun j hj => by simpa using h2 j hj)]
  simp
  omega
theorem Ring.up_in {n : Nat} {up dn : Nat → Int} {l : List Nat} (h : Ring n up dn l) {i : Nat} (hi : i < n) : 0 ≤ up i ↔ i ∈ l := by
  by_cases hm : i ∈ l
  · obtain ⟨a, b, _, e, _⟩ := h.cut hm
    simp [hm, e]
  · have := (h.out i hi hm).1
    simp [hm, this]
end Go.Proofs.Ythaaonafpbodmaa
