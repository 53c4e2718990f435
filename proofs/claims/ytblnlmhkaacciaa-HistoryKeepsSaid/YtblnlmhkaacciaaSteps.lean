/-
  The pushes that came in: a slice of structs that hold a number and a slice of numbers; the reach of the tables. No condition.
-/
import Derived.Test.YtblnlmhkaacciaaNil
import Derived.Test.YtblnlmhkaacciaaSized
import Derived.Deep.Slices
import Derived.Deep.Fields
namespace Go.Proofs.Ytblnlmhkaacciaa
open Go.ChangeShapes Go.WideShapes Go.ChangeAt Go.RowKit Go.Deep
set_option linter.unusedVariables false
set_option linter.unusedSimpArgs false

def StepsIn (w : World) (A : Option Addr) (n : Nat) : Prop :=
  0 < n → ∃ g o, A = some ⟨g, o, none⟩ ∧ g < w.heap.size ∧ ∀ i, i < n → ∃ (x : Int) (B : Option Addr) (m c : Nat) (t : List Int),
    w.cell? ⟨g, o + i * 2, none⟩ = some (.int .i64 x) ∧ w.cell? ⟨g, o + i * 2 + 1, none⟩ = some (.slice B m c) ∧
    (-9223372036854775808 ≤ x ∧ x ≤ 9223372036854775807) ∧ NRow w B t ∧ t.length = m ∧ m * 8 ≤ 140737488351232 ∧ (0 < m → ∀ a, B = some a → a.block < w.heap.size) ∧ (B = none → c = 0)
theorem all_mem {H : Type} {P : Program} {e : TypeId} : ∀ {l : List (DataW H)} {d : DataW H}, d ∈ l → ∀ n ∈ d.weights P e, n ∈ DataW.weightsAll P e l
  | d' :: r, d, hd, n, hn => by
    simp only [DataW.weightsAll, List.mem_append]
    rcases List.mem_cons.1 hd with rfl | h
    · exact Or.inl hn
    · exact Or.inr (all_mem h n hn)
theorem cell_add {W : World} {g o k j : Nat} {v : Value} (h : W.cell? (((⟨g, o, none⟩ : Addr).add k).add j) = some v) : W.cell? ⟨g, o + k + j, none⟩ = some v := by
  rw [Addr.add_mid, Addr.add_mid] at h
  exact h
theorem steps_of {H : Type} {enc : TypeId × Value → H} {W : World} {base : Nat} {held : Bool} {a : Option Addr} {len cap : Nat} {d : DataW H} {p : List MemPlace} {ts : List TypeId} {ds : List (DataW H)}
    (hsz : (DataW.weightsEach Try.prog (22 :: ts) (d :: ds)).all (· ≤ reachBytes) = true) (h : DataW.Trod enc Try.prog W base (fun _ => true) held 22 (.slice a len cap) d p) : StepsIn W a len ∧ len ≤ 9223372036854775807 := by
  obtain ⟨fuel, hf⟩ := h
  have hC : Try.prog.cellsOf 28 = 2 := by kernel_rfl
  rcases open_slice Try.underlying22 hf with ⟨hcs, _⟩ | ⟨a', l, c, m', n, D, Pl, hcs, hb, hl, hmx, hm', hx, hi⟩
  · simp [Value.cells] at hcs
    obtain ⟨rfl, rfl, rfl⟩ := hcs
    exact ⟨fun h => absurd h (by omega), by omega⟩
  · simp [Value.cells] at hcs
    obtain ⟨rfl, rfl, rfl⟩ := hcs
    simp only [if_true] at hm'
    subst hm'
    have hd : d = .slice ((List.range len).map D) ((List.range (m' - len)).map fun j => D (len + j)) := congrArg Prod.fst hx
    have f : ∀ i, i < len → ∃ (x : Int) (B : Option Addr) (m c : Nat) (t : List Int), W.cell? ((a'.add (i * 2)).add 0) = some (.int .i64 x) ∧ W.cell? ((a'.add (i * 2)).add 1) = some (.slice B m c) ∧
        (-9223372036854775808 ≤ x ∧ x ≤ 9223372036854775807) ∧ NRow W B t ∧ t.length = m ∧ m * 8 ≤ 140737488351232 ∧ (0 < m → ∀ a, B = some a → a.block < W.heap.size) ∧ (B = none → c = 0) := by
      intro i hil
      obtain ⟨cs', hc, ht'⟩ := hi i (by omega)
      rw [hC] at hc
      obtain ⟨_, hcl, hat⟩ := World.cells?_some hc
      obtain ⟨xs, n', _, hxx, hl3, hx3, hfs⟩ := DataW.trod_struct Try.underlying28 ht'
      rw [hC] at hl3
      obtain ⟨v0, v1, rfl⟩ : ∃ v0 v1, cs' = [v0, v1] := by
        match cs', hl3 with
        | [v0, v1], _ => exact ⟨v0, v1, rfl⟩
      obtain ⟨y0, y1, rfl⟩ : ∃ y0 y1, xs = [y0, y1] := by
        match xs, hx3 with
        | [y0, y1], _ => exact ⟨y0, y1, rfl⟩
      have e3 : Try.prog.cellsOf 3 = 1 := by kernel_rfl
      have e26 : Try.prog.cellsOf 26 = 1 := by kernel_rfl
      have h0 := hfs 0 _ rfl
      have h1 := hfs 1 _ rfl
      simp only [e3, e26, List.drop_zero, List.take_succ_cons, List.take_zero, List.drop_succ_cons, List.getElem?_cons_zero, List.getElem?_cons_succ] at h0 h1
      obtain ⟨x, hx', _, hxw⟩ := DataW.trod_int Try.underlying3 h0
      injection hx' with hx'
      subst hx'
      have c0 := hat 0 (by omega)
      have c1 := hat 1 (by omega)
      have hDi : D i = .agg [y0.1, y1.1] := congrArg Prod.fst hxx
      rcases open_ints Try.underlying26 Try.underlying3 (by kernel_rfl) h1 with ⟨hv, _⟩ | ⟨ad, ln, cp, zs, hv, _, hl1, hm1, hz, hy1, hcell, hzw⟩
      · injection hv with hv
        subst hv
        exact ⟨x, none, 0, 0, [], c0, c1, wf_i64 hxw, fun h => absurd h (by simp), rfl, by omega, fun h => absurd h (by omega), fun _ => rfl⟩
      · injection hv with hv
        subst hv
        simp only [if_true] at hz
        have hw : (ln + (zs.drop ln).length) * Try.prog.bytesOf 3 ≤ reachBytes := by
          refine of_decide_eq_true (List.all_eq_true.1 hsz _ (DataW.weights_mem_each (j := 0) (t := 22) (d := d) rfl rfl _ ?_))
          rw [hd]
          simp only [DataW.weights, Try.underlying22, List.mem_cons, List.mem_append]
          refine Or.inr (Or.inl (all_mem (d := D i) (List.mem_map.2 ⟨i, List.mem_range.2 hil, rfl⟩) _ ?_))
          rw [hDi]
          simp only [DataW.weights, Try.underlying28, DataW.weightsEach, List.map_cons, List.mem_append]
          refine Or.inr (Or.inl ?_)
          have hy : y1.1 = .slice (lits .i64 (zs.take ln)) (lits .i64 (zs.drop ln)) := congrArg Prod.fst hy1
          rw [hy]
          simp only [DataW.weights, Try.underlying26, List.mem_cons]
          refine Or.inl ?_
          have q1 : (lits (H := H) .i64 (zs.take ln)).length = ln := by simp [lits]; omega
          have q2 : (lits (H := H) .i64 (zs.drop ln)).length = (zs.drop ln).length := by simp [lits]
          rw [q1, q2]
        have hb5 : Try.prog.bytesOf 3 = 8 := by kernel_rfl
        rw [hb5] at hw
        have hrow : IsRow .i64 W (some ad) ln cp zs := .inr ⟨_, rfl, hl1, hm1, by simpa using hz, hcell, hzw⟩
        have h47 : ln * 8 ≤ 140737488351232 := by
          have h9 : reachBytes ≤ 140737488351232 := by decide
          have h8 : ln * 8 ≤ (ln + (zs.drop ln).length) * 8 := Nat.mul_le_mul_right _ (by omega)
          omega
        refine ⟨x, some ad, ln, cp, zs.take ln, c0, c1, wf_i64 hxw, fun hp => ?_, by simp; omega, h47, fun hp b hbb => ?_, fun h => by cases h⟩
        · have hp' : 0 < ln := by simp at hp; omega
          obtain ⟨b, o, hb1, hb2, hb3⟩ := hrow.at_ hp'
          refine ⟨b, o, hb1, hb2, fun j hj => ?_⟩
          have hjl : j < ln := by simp at hj; omega
          rw [hb3 j (by omega)]
          simp [List.getD_eq_getElem?_getD, show j < zs.length by simp at hj; omega]
        · cases hbb
          obtain ⟨b2, o, hb1, hb2, hb3⟩ := hrow.at_ hp
          injection hb1 with hb1
          subst hb1
          exact hb2
    refine ⟨fun hp => ?_, by unfold maxLen at hmx; omega⟩
    obtain ⟨g, o, spot⟩ := a'
    obtain ⟨x0, B0, m0, c0, t0, h00, _⟩ := f 0 hp
    have hspot : spot = none := by simpa [Addr.add] using World.cell?_spot h00
    subst hspot
    refine ⟨g, o, rfl, ?_, fun i hi' => ?_⟩
    · have := block_lt_of_cell h00
      simpa [Addr.add] using this
    · obtain ⟨x, B, m, c, t, h1, h2, h4⟩ := f i hi'
      exact ⟨x, B, m, c, t, cell_add h1, cell_add h2, h4⟩
end Go.Proofs.Ytblnlmhkaacciaa
