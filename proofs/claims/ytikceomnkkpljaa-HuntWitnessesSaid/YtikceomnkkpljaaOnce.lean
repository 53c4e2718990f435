/-
  Numbers, each once: what the iterator hands over; what its map holds. No program in sight.
-/
import Derived.Test.YtikceomnkkpljaaSeg
import Derived.Maps.OwnIn
import Derived.Maps.Views
namespace Go.Proofs.Ytikceomnkkpljaa
open Go.ChangeShapes Go.WideShapes Go.ChangeAt Go.RowKit
set_option linter.unusedVariables false
set_option linter.unusedSimpArgs false

theorem rev_ind {α : Type} {p : List α → Prop} (h0 : p []) (h1 : ∀ l a, p l → p (l ++ [a])) : ∀ l, p l := by
  intro l
  have : ∀ m : List α, p m.reverse := by
    intro m
    induction m with
    | nil => exact h0
    | cons a t ih => rw [List.reverse_cons]; exact h1 _ _ ih
  have := this l.reverse
  rwa [List.reverse_reverse] at this
def wfi (x : Int) : Prop := (Lit.int .i64 x).wf = true
def stepN (out : List Int) (n : Int) : List Int := if isN n = true ∧ ¬ n ∈ out then out ++ [n] else out
def nodesL (ns : List Int) : List Int := ns.foldl stepN []
theorem nodesL_snoc (ns : List Int) (n : Int) : nodesL (ns ++ [n]) = stepN (nodesL ns) n := by simp [nodesL]
theorem mem_nodesL : ∀ (ns : List Int) (x : Int), x ∈ nodesL ns ↔ x ∈ ns ∧ isN x = true := by
  refine rev_ind (fun x => by simp [nodesL]) (fun l n ih x => ?_)
  · rw [nodesL_snoc]
    unfold stepN
    split
    · rename_i h
      simp only [List.mem_append, List.mem_singleton, ih]
      constructor
      · rintro (⟨h1, h2⟩ | rfl)
        · exact ⟨.inl h1, h2⟩
        · exact ⟨.inr rfl, h.1⟩
      · rintro ⟨h1 | rfl, h2⟩
        · exact .inl ⟨h1, h2⟩
        · exact .inr rfl
    · rename_i h
      simp only [List.mem_append, List.mem_singleton, ih]
      constructor
      · rintro ⟨h1, h2⟩
        exact ⟨.inl h1, h2⟩
      · rintro ⟨h1 | rfl, h2⟩
        · exact ⟨h1, h2⟩
        · have : x ∈ nodesL l := Classical.byContradiction fun hn => h ⟨h2, hn⟩
          exact (ih x).1 this
theorem nodesL_len : ∀ (ns : List Int), (nodesL ns).length ≤ ns.length := by
  refine rev_ind (by simp [nodesL]) (fun l n ih => ?_)
  · rw [nodesL_snoc]
    unfold stepN
    split <;> simp <;> omega
def flatN (ps : List (Int × Int)) : List Int := ps.flatMap (fun p => [p.1, p.2])
theorem flatN_len (ps : List (Int × Int)) : (flatN ps).length = ps.length * 2 := by
  induction ps with
  | nil => rfl
  | cons p t ih => simp [flatN] at *; omega
theorem flatN_snoc (ps : List (Int × Int)) (p : Int × Int) : flatN (ps ++ [p]) = flatN ps ++ [p.1] ++ [p.2] := by simp [flatN]
/-- What the map holds: how often each has come. -/
def Cnt (D : DataW Nat) (ns : List Int) : Prop := Maps.IsMap D ∧ ∀ x, D.atKey (.int .i64 x) (.lit (.int .i64 0)) = .lit (.int .i64 ((ns.count x : Nat) : Int))
theorem Cnt.nil : Cnt (.map []) [] := ⟨Maps.isMap_empty, fun x => rfl⟩
theorem Cnt.snoc {D : DataW Nat} {ns : List Int} (h : Cnt D ns) (x : Int) (c : Int) (hc : c = ((ns.count x : Nat) : Int) + 1) : Cnt (D.put (.int .i64 x) (.lit (.int .i64 c))) (ns ++ [x]) := by
  refine ⟨h.1.put _ _, fun y => ?_⟩
  by_cases hy : y = x
  · subst hy
    rw [Maps.atKey_put_same h.1 (by exact trivial)]
    simp [List.count_append, hc]
  · rw [Maps.atKey_put_other (fun e => hy (by injection e))]
    rw [h.2 y]
    have : List.count y [x] = 0 := List.count_eq_zero.2 (by simpa using hy)
    rw [List.count_append, this]
    simp
end Go.Proofs.Ytikceomnkkpljaa
