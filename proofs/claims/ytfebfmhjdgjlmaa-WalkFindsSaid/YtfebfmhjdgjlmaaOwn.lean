/-
  Headers in memory: a row of the call's own that holds a list of headers. No condition.
-/
import Derived.Test.YtfebfmhjdgjlmaaMem
import Derived.Test.YtfebfmhjdgjlmaaPlain
import Derived.OwnWalk
namespace Go.Proofs.Ytfebfmhjdgjlmaa
open Go.ChangeShapes Go.WideShapes Go.ChangeAt Go.RowKit
set_option linter.unusedVariables false

def hd (p : Hd) : List Value := [.int .i64 p.1, .int .i64 p.2.1, .int .i64 p.2.2]
def flat (ps : List Hd) : List Value := ps.flatMap hd
theorem flat_len (ps : List Hd) : (flat ps).length = ps.length * 3 := by
  induction ps with
  | nil => rfl
  | cons p t ih => simp only [flat, List.flatMap_cons, List.length_append, List.length_cons] at ih ⊢; rw [ih]; simp [hd]; omega
theorem flat_snoc (ps : List Hd) (p : Hd) : flat (ps ++ [p]) = flat ps ++ hd p := by simp [flat]
theorem flat_cons (ps : List Hd) (p : Hd) : flat (p :: ps) = hd p ++ flat ps := by simp [flat]
theorem flat_get (ps : List Hd) (i : Nat) (h : i < ps.length) : (flat ps)[i * 3]? = some (.int .i64 ps[i].1) ∧ (flat ps)[i * 3 + 1]? = some (.int .i64 ps[i].2.1) ∧ (flat ps)[i * 3 + 2]? = some (.int .i64 ps[i].2.2) := by
  induction ps generalizing i with
  | nil => simp at h
  | cons p t ih =>
    rw [flat_cons]
    cases i with
    | zero => simp [hd]
    | succ i =>
      have := ih i (by simpa using h)
      have e : ∀ j, (hd p ++ flat t)[(i + 1) * 3 + j]? = (flat t)[i * 3 + j]? := by
        intro j
        rw [List.getElem?_append_right (by simp [hd]; omega)]
        congr 1; simp [hd]; omega
      refine ⟨(e 0).trans this.1, (e 1).trans this.2.1, (e 2).trans this.2.2⟩

/-- The slice value is the call's own, from block B on, and holds the headers ps. -/
def Own (w : World) (B : Nat) (T : TypeId) (v : Value) (ps : List Hd) : Prop := w.ownsRow B T 3 v ps.length (flat ps)
theorem Own.form {w : World} {B : Nat} {T : TypeId} {v : Value} {ps : List Hd} (h : Own w B T v ps) : ∃ A c, v = .slice A ps.length c := by
  rcases h.2 with ⟨rfl, h0⟩ | ⟨g, cap, cur, rfl, _⟩
  · exact ⟨none, 0, by rw [h0]⟩
  · exact ⟨_, _, rfl⟩
theorem Own.nil (w : World) (B : Nat) (T : TypeId) : Own w B T (.slice none 0 0) [] := World.ownsRow_nil _ _ _ _
/-- What a walk over headers leaves. -/
def Post (T : TypeId) (w : World) (r : List Hd × Int) (e : Ending) (w' : World) : Prop :=
  ∃ A c, e = .returned (.tuple #[.slice A r.1.length c, .int .i64 r.2]) ∧ Own w' w.heap.size T (.slice A r.1.length c) r.1 ∧ Below w.heap.size w w'
theorem cells3 {w : World} {n : Nat} {t : TypeId} {x y z : Value} (h : w.heap[n]? = some (.cells #[x, y, z] t (0, 0))) : ∀ j u, [x, y, z][j]? = some u → w.cell? ((⟨n, 0, none⟩ : Addr).add j) = some u := by
  intro j u hj
  match j, hj with
  | 0, hj => simp at hj; subst hj; simp [Addr.add, World.cell?, h]
  | 1, hj => simp at hj; subst hj; simp [Addr.add, World.cell?, h]
  | 2, hj => simp at hj; subst hj; simp [Addr.add, World.cell?, h]
theorem one3 (a b c : Int) : ∀ u ∈ [Value.int .i64 a, .int .i64 b, .int .i64 c], u.oneCell' = true := by
  intro u hu; simp at hu; rcases hu with rfl | rfl | rfl <;> rfl
end Go.Proofs.Ytfebfmhjdgjlmaa
