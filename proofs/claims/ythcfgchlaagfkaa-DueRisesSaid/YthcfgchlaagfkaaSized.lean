/-
  What the row's own reach says of a slice that came in: its length times an element's bytes is bounded. No program in sight.
-/
import Derived.Test.YthcfgchlaagfkaaBase
import Derived.SizedLaws
import Derived.Deep.Slices
namespace Go.Proofs.Ythcfgchlaagfkaa
open Go.ChangeShapes Go.WideShapes Go.ChangeAt Go.RowKit
set_option linter.unusedVariables false

theorem reach_cap {H : Type} {enc : TypeId × Value → H} {P : Program} {W : World} {base : Nat} {held : Bool} {T E : TypeId} {a : Option Addr} {len cap j : Nat} {d : DataW H} {p : List MemPlace} {ts : List TypeId} {ds : List (DataW H)}
    (hsz : (DataW.weightsEach P ts ds).all (· ≤ reachBytes) = true) (htj : ts[j]? = some T) (hdj : ds[j]? = some d) (ht : P.underlying T = some (.slice E))
    (h : DataW.Trod enc P W base (fun _ => true) held T (.slice a len cap) d p) : len ≤ cap ∧ cap * P.bytesOf E ≤ reachBytes := by
  obtain ⟨fuel, hf⟩ := h
  rcases Go.Deep.open_slice ht hf with ⟨hcs, _⟩ | ⟨a', l, c, m, n, D, Pl, hcs, _, hl, _, hm, hx, _⟩
  · simp [Value.cells] at hcs
    obtain ⟨_, rfl, rfl⟩ := hcs
    simp
  · simp [Value.cells] at hcs
    obtain ⟨rfl, rfl, rfl⟩ := hcs
    simp only [if_true] at hm
    subst hm
    injection hx with hd _
    rw [hd] at hdj
    have := sized_slice hsz htj hdj ht
    simp only [List.length_map, List.length_range] at this
    rw [Nat.add_sub_cancel' hl] at this
    exact ⟨hl, this⟩
theorem reach_len {H : Type} {enc : TypeId × Value → H} {P : Program} {W : World} {base : Nat} {held : Bool} {T E : TypeId} {a : Option Addr} {len cap j b : Nat} {d : DataW H} {p : List MemPlace} {ts : List TypeId} {ds : List (DataW H)}
    (hsz : (DataW.weightsEach P ts ds).all (· ≤ reachBytes) = true) (htj : ts[j]? = some T) (hdj : ds[j]? = some d) (ht : P.underlying T = some (.slice E)) (hb : P.bytesOf E = b)
    (h : DataW.Trod enc P W base (fun _ => true) held T (.slice a len cap) d p) : len * b ≤ 140737488351232 := by
  obtain ⟨h1, h2⟩ := reach_cap hsz htj hdj ht h
  rw [hb] at h2
  exact Nat.le_trans (Nat.mul_le_mul_right b h1) h2
end Go.Proofs.Ythcfgchlaagfkaa
