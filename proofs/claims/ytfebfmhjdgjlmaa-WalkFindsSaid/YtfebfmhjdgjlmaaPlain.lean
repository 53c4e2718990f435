/-
  The plain law of a walk over headers. No program in sight. No condition.
-/
import Derived.Test.YtfebfmhjdgjlmaaBase
namespace Go.Proofs.Ytfebfmhjdgjlmaa
set_option linter.unusedVariables false

/-- A header: its kind, its place, its length. -/
abbrev Hd := Int × Int × Int
def extB (k : Int) : Bool := decide (k = 0 ∨ k = 43 ∨ k = 60)
def mayE (k m : Int) : Int := if k = 44 then 7 else if k = 0 ∧ 0 < m then 5 else if extB k = true ∧ 8 ≤ m then 8 else 0
/-- What is read of bytes: B, and how many there are: L. -/
def wk (B : Nat → Int) (L : Nat) : Nat → Int → Nat → Nat → List Hd × Int
  | 0, _, _, _ => ([], 8)
  | f + 1, k, a, m =>
    if mayE k m ≠ 0 then ([], mayE k m)
    else if extB k = false then ([(k, (a : Int), (L : Int) - a)], 0)
    else if L < a + 2 ∨ (L : Int) - a < 8 * B (a + 1) + 8 then ([], 3)
    else
      let r := wk B L f (B a) (a + (8 * B (a + 1) + 8).toNat) (m + 1)
      if r.2 ≠ 0 then ([], r.2) else ((k, (a : Int), 8 * B (a + 1) + 8) :: r.1, 0)
def glue (acc : List Hd) (r : List Hd × Int) : List Hd × Int := if r.2 ≠ 0 then ([], r.2) else (acc ++ r.1, 0)

section
variable {B : Nat → Int} {L f : Nat} {k : Int} {a m : Nat}
theorem wk_may (h : mayE k m ≠ 0) : wk B L (f + 1) k a m = ([], mayE k m) := by simp only [wk]; rw [if_pos h]
theorem wk_end (h : mayE k m = 0) (h2 : extB k = false) : wk B L (f + 1) k a m = ([(k, (a : Int), (L : Int) - a)], 0) := by
  simp only [wk]; rw [if_neg (by simp [h]), if_pos h2]
theorem wk_short (h : mayE k m = 0) (h2 : extB k = true) (h3 : L < a + 2 ∨ (L : Int) - a < 8 * B (a + 1) + 8) : wk B L (f + 1) k a m = ([], 3) := by
  simp only [wk]; rw [if_neg (by simp [h]), if_neg (by simp [h2]), if_pos h3]
theorem wk_step (h : mayE k m = 0) (h2 : extB k = true) (h3 : ¬ (L < a + 2 ∨ (L : Int) - a < 8 * B (a + 1) + 8)) :
    wk B L (f + 1) k a m = if (wk B L f (B a) (a + (8 * B (a + 1) + 8).toNat) (m + 1)).2 ≠ 0 then ([], (wk B L f (B a) (a + (8 * B (a + 1) + 8).toNat) (m + 1)).2) else ((k, (a : Int), 8 * B (a + 1) + 8) :: (wk B L f (B a) (a + (8 * B (a + 1) + 8).toNat) (m + 1)).1, 0) := by
  simp only [wk]; rw [if_neg (by simp [h]), if_neg (by simp [h2]), if_neg h3]
theorem may_room {k : Int} {m : Nat} (h : mayE k m = 0) (h2 : extB k = true) : m < 8 := by
  unfold mayE at h
  by_cases c1 : k = 44
  · rw [if_pos c1] at h; simp at h
  · rw [if_neg c1] at h
    by_cases c2 : k = 0 ∧ (0 : Int) < m
    · rw [if_pos c2] at h; simp at h
    · rw [if_neg c2] at h
      by_cases c3 : extB k = true ∧ (8 : Int) ≤ m
      · rw [if_pos c3] at h; simp at h
      · simp [h2] at c3; omega
theorem glue_nil (r : List Hd × Int) (h : r.2 ≠ 0 → r.1 = []) : glue [] r = r := by
  obtain ⟨l, e⟩ := r
  unfold glue
  by_cases he : e = 0
  · subst he; simp
  · simp only at h; rw [if_pos he, h he]
theorem wk_err (B : Nat → Int) (L f : Nat) : ∀ (k : Int) (a m : Nat), (wk B L f k a m).2 ≠ 0 → (wk B L f k a m).1 = [] := by
  induction f with
  | zero => intro k a m _; rfl
  | succ f ih =>
    intro k a m h
    simp only [wk] at h ⊢
    by_cases h1 : mayE k m ≠ 0
    · rw [if_pos h1]
    · rw [if_neg h1] at h ⊢
      by_cases h2 : extB k = false
      · rw [if_pos h2] at h; simp at h
      · rw [if_neg h2] at h ⊢
        by_cases h3 : L < a + 2 ∨ (L : Int) - a < 8 * B (a + 1) + 8
        · rw [if_pos h3]
        · rw [if_neg h3] at h ⊢
          by_cases h4 : (wk B L f (B a) (a + (8 * B (a + 1) + 8).toNat) (m + 1)).2 ≠ 0
          · rw [if_pos h4]
          · rw [if_neg h4] at h; simp at h
theorem wk_some (B : Nat → Int) (L f : Nat) (k : Int) (a m : Nat) : (wk B L f k a m).2 = 0 → 0 < (wk B L f k a m).1.length := by
  cases f with
  | zero => intro h; simp [wk] at h
  | succ f =>
    intro h
    simp only [wk] at h ⊢
    by_cases h1 : mayE k m ≠ 0
    · rw [if_pos h1] at h; exact absurd h h1
    · rw [if_neg h1] at h ⊢
      by_cases h2 : extB k = false
      · rw [if_pos h2]; simp
      · rw [if_neg h2] at h ⊢
        by_cases h3 : L < a + 2 ∨ (L : Int) - a < 8 * B (a + 1) + 8
        · rw [if_pos h3] at h; simp at h
        · rw [if_neg h3] at h ⊢
          by_cases h4 : (wk B L f (B a) (a + (8 * B (a + 1) + 8).toNat) (m + 1)).2 ≠ 0
          · rw [if_pos h4] at h; exact absurd h h4
          · rw [if_neg h4]; simp
theorem wk_len (B : Nat → Int) (L f : Nat) : ∀ (k : Int) (a m : Nat), (wk B L f k a m).1.length ≤ f := by
  induction f with
  | zero => intro k a m; simp [wk]
  | succ f ih =>
    intro k a m
    simp only [wk]
    split
    · simp
    · split
      · simp
      · split
        · simp
        · split
          · simp
          · have := ih (B a) (a + (8 * B (a + 1) + 8).toNat) (m + 1)
            simp only [List.length_cons]; omega
theorem glue_step (ps : List Hd) (p : Hd) (r : List Hd × Int) : glue ps (if r.2 ≠ 0 then ([], r.2) else (p :: r.1, 0)) = glue (ps ++ [p]) r := by
  obtain ⟨l, e⟩ := r
  unfold glue
  by_cases he : e = 0
  · subst he; simp
  · simp [he]
theorem glue_bad (ps : List Hd) (e : Int) (h : e ≠ 0) : glue ps ([], e) = ([], e) := by unfold glue; simp [h]
theorem glue_good (ps qs : List Hd) : glue ps (qs, 0) = (ps ++ qs, 0) := by unfold glue; simp
end
end Go.Proofs.Ytfebfmhjdgjlmaa
