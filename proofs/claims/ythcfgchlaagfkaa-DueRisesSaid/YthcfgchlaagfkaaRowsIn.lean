/-
  A slice that came in, whose elements are structs or arrays of numbers of one kind: it reads as a list of lists of numbers. No program in sight.
-/
import Derived.Test.YthcfgchlaagfkaaArgs
import Derived.Test.YthcfgchlaagfkaaMem
import Derived.Deep.Slices
import Derived.Deep.Fields
namespace Go.Proofs.Ythcfgchlaagfkaa
open Go.ChangeShapes Go.WideShapes Go.ChangeAt Go.RowKit Go.Deep
set_option linter.unusedVariables false

section
variable {H : Type} {enc : TypeId × Value → H} {P : Program} {w : World} {base : Nat} {spare : Nat → Bool} {held : Bool} {fuel : Nat} {t e : TypeId} {cs : List Value} {x : DataW H × List MemPlace} {k : IntKind}

/-- A struct of numbers. -/
theorem ints_of_struct {fs : Array Field} (ht : P.underlying t = some (.struct fs)) (hone : oneCellFields P fs = true) (hint : fs.toList.map (fun f => P.underlying f.type) = List.replicate fs.size (some (.int k))) (hn : P.cellsOf t = fs.size)
    (h : DataW.trod enc P w base spare held fuel t cs = some x) : ∃ ns : List Int, ns.length = fs.size ∧ Ints k cs ns := by
  obtain ⟨xs, m, _, _, hl, hx, hi⟩ := DataW.trod_struct ht h
  rw [hn] at hl
  have f : ∀ i, i < fs.size → ∃ z : Int, cs[i]? = some (.int k z) ∧ (Lit.int k z).wf = true := by
    intro i hin
    have hf : fs[i]? = some fs[i] := Array.getElem?_eq_getElem hin
    have h1 := hi i _ hf
    obtain ⟨ho, hk⟩ := hone_of hone i _ hf
    have hu : P.underlying fs[i].type = some (.int k) := by
      have : (fs.toList.map (fun f => P.underlying f.type))[i]? = some (some (.int k)) := by rw [hint]; simp [hin]
      simpa [hin] using this
    rw [ho, hk, List.getElem?_eq_getElem (by omega)] at h1
    obtain ⟨z, hz, _, hw⟩ := DataW.trod_int hu h1
    refine ⟨z, ?_, hw⟩
    have h2 : ((cs.drop i).take 1)[0]? = some (.int k z) := by rw [hz]; rfl
    simpa [List.getElem?_take, List.getElem?_drop] using h2
  refine ⟨cs.map intOf, by simpa using hl, ?_, ?_⟩
  · apply List.ext_getElem?
    intro i
    by_cases hin : i < fs.size
    · obtain ⟨z, hz, _⟩ := f i hin
      simp [hz, intOf]
    · rw [List.getElem?_eq_none (by omega), List.getElem?_eq_none (by simp; omega)]
  · intro z hz
    rw [List.mem_map] at hz
    obtain ⟨v, hv, rfl⟩ := hz
    obtain ⟨i, hi, rfl⟩ := List.getElem_of_mem hv
    obtain ⟨z, hz, hw⟩ := f i (by omega)
    rw [List.getElem?_eq_getElem hi] at hz
    injection hz with hz
    rw [hz]
    exact hw
end

/-- A slice whose element i is the m numbers of row i. -/
def IRow (k : IntKind) (m : Nat) (w : World) (A : Option Addr) (n : Nat) (R : Nat → Nat → Int) : Prop :=
  0 < n → ∃ g o, A = some ⟨g, o, none⟩ ∧ g < w.heap.size ∧ ∀ i, i < n → ∀ j, j < m → w.cell? ⟨g, o + i * m + j, none⟩ = some (.int k (R i j)) ∧ (Lit.int k (R i j)).wf = true
theorem IRow.later {k : IntKind} {m : Nat} {w v : World} {A : Option Addr} {n : Nat} {R : Nat → Nat → Int} (h : IRow k m w A n R) (hb : Below w.heap.size w v) : IRow k m v A n R := by
  intro hn
  obtain ⟨g, o, rfl, hg, hc⟩ := h hn
  exact ⟨g, o, rfl, Nat.lt_of_lt_of_le hg hb.size, fun i hi j hj => ⟨(hb.cell (p := ⟨g, _, none⟩) hg).trans (hc i hi j hj).1, (hc i hi j hj).2⟩⟩

theorem iRow_of {H : Type} {enc : TypeId × Value → H} {P : Program} {W : World} {base : Nat} {held : Bool} {k : IntKind} {T E : TypeId} {a : Option Addr} {len cap m : Nat} {d : DataW H} {p : List MemPlace}
    (ht : P.underlying T = some (.slice E)) (hm : 0 < m) (hC : P.cellsOf E = m) (hE : ∀ n cs x, DataW.trod enc P W base (fun _ => true) held n E cs = some x → ∃ ns : List Int, ns.length = m ∧ Ints k cs ns)
    (h : DataW.Trod enc P W base (fun _ => true) held T (.slice a len cap) d p) : ∃ R, IRow k m W a len R ∧ len ≤ cap ∧ cap ≤ maxLen := by
  obtain ⟨fuel, hf⟩ := h
  rcases open_slice ht hf with ⟨hcs, _⟩ | ⟨a', l, c, m', n, D, Pl, hcs, hb, hl, hmx, hm', _, hi⟩
  · simp [Value.cells] at hcs
    obtain ⟨rfl, rfl, rfl⟩ := hcs
    exact ⟨fun _ _ => 0, fun h => absurd h (by omega), by omega, by unfold maxLen; omega⟩
  · simp [Value.cells] at hcs
    obtain ⟨rfl, rfl, rfl⟩ := hcs
    simp only [if_true] at hm'
    subst hm'
    have f : ∀ i, i < len → ∃ ns : List Int, ns.length = m ∧ (∀ z ∈ ns, (Lit.int k z).wf = true) ∧ ∀ j, j < m → W.cell? ((a'.add (i * m)).add j) = some (.int k (ns.getD j 0)) := by
      intro i hi'
      obtain ⟨cs', hc, ht'⟩ := hi i (by omega)
      obtain ⟨ns, hn, hcs, hw⟩ := hE _ _ _ ht'
      rw [hC] at hc
      obtain ⟨_, hcl, hat⟩ := World.cells?_some hc
      refine ⟨ns, hn, hw, fun j hj => ?_⟩
      rw [hat j hj, hcs, List.getElem?_map, List.getD_eq_getElem?_getD, List.getElem?_eq_getElem (by omega)]
      rfl
    refine ⟨fun i j => if h : i < len then (Classical.choose (f i h)).getD j 0 else 0, fun hp => ?_, hl, hmx⟩
    obtain ⟨g, o, spot⟩ := a'
    obtain ⟨ns0, _, _, h00⟩ := f 0 hp
    have h0 := h00 0 hm
    have hspot : spot = none := by simpa [Addr.add] using World.cell?_spot h0
    subst hspot
    refine ⟨g, o, rfl, ?_, fun i hi' j hj => ?_⟩
    · have := block_lt_of_cell h0
      simpa [Addr.add] using this
    · obtain ⟨hn, hw, hc⟩ := Classical.choose_spec (f i hi')
      have e : ((⟨g, o, none⟩ : Addr).add (i * m)).add j = ⟨g, o + i * m + j, none⟩ := by
        unfold Addr.add
        by_cases h1 : i * m = 0 <;> by_cases h2 : j = 0 <;> simp [h1, h2]
      have h1 := hc j hj
      rw [e] at h1
      simp only [dif_pos hi']
      refine ⟨h1, ?_⟩
      rw [List.getD_eq_getElem?_getD, List.getElem?_eq_getElem (by omega)]
      exact hw _ (List.getElem_mem _)
end Go.Proofs.Ythcfgchlaagfkaa
