/-
  The calls that came in: a slice of structs that hold a number, bytes, and a number; the reach of the bytes. No condition.
-/
import Derived.Test.YtiooikjaalphiaaSame
import Derived.Test.YtiooikjaalphiaaSized
import Derived.Deep.Slices
import Derived.Deep.Fields
namespace Go.Proofs.Ytiooikjaalphiaa
open Go.ChangeShapes Go.WideShapes Go.ChangeAt Go.RowKit Go.Deep
set_option linter.unusedVariables false
set_option linter.unusedSimpArgs false

def OpsIn (w : World) (A : Option Addr) (n : Nat) : Prop :=
  0 < n → ∃ g o, A = some ⟨g, o, none⟩ ∧ g < w.heap.size ∧ ∀ i, i < n → ∃ (k x : Int) (B : Option Addr) (m c : Nat) (bs : List Int),
    w.cell? ⟨g, o + i * 3, none⟩ = some (.int .i64 k) ∧ w.cell? ⟨g, o + i * 3 + 1, none⟩ = some (.slice B m c) ∧ w.cell? ⟨g, o + i * 3 + 2, none⟩ = some (.int .i64 x) ∧
    (-9223372036854775808 ≤ k ∧ k ≤ 9223372036854775807) ∧ BRow w B m bs ∧ m ≤ c ∧ m ≤ 140737488355328 ∧ (B = none → m = 0)
theorem OpsIn.later {w v : World} {A : Option Addr} {n : Nat} (h : OpsIn w A n) (hb : Below w.heap.size w v) : OpsIn v A n := by
  intro hn
  obtain ⟨g, o, rfl, hg, hc⟩ := h hn
  refine ⟨g, o, rfl, Nat.lt_of_lt_of_le hg hb.size, fun i hi => ?_⟩
  obtain ⟨k, x, B, m, c, bs, h1, h2, h3, h4, h5, h6⟩ := hc i hi
  exact ⟨k, x, B, m, c, bs, (hb.cell (p := ⟨g, _, none⟩) hg).trans h1, (hb.cell (p := ⟨g, _, none⟩) hg).trans h2, (hb.cell (p := ⟨g, _, none⟩) hg).trans h3, h4, h5.later hb, h6⟩
theorem all_mem {H : Type} {P : Program} {e : TypeId} : ∀ {l : List (DataW H)} {d : DataW H}, d ∈ l → ∀ n ∈ d.weights P e, n ∈ DataW.weightsAll P e l
  | d' :: r, d, hd, n, hn => by
    simp only [DataW.weightsAll, List.mem_append]
    rcases List.mem_cons.1 hd with rfl | h
    · exact Or.inl hn
    · exact Or.inr (all_mem h n hn)
theorem cell_add {W : World} {g o k j : Nat} {v : Value} (h : W.cell? (((⟨g, o, none⟩ : Addr).add k).add j) = some v) : W.cell? ⟨g, o + k + j, none⟩ = some v := by
  rw [Addr.add_mid, Addr.add_mid] at h
  exact h
theorem ops_of {H : Type} {enc : TypeId × Value → H} {W : World} {base : Nat} {held : Bool} {a : Option Addr} {len cap : Nat} {d : DataW H} {p : List MemPlace} {ts : List TypeId} {ds : List (DataW H)}
    (hsz : (DataW.weightsEach Try.prog (22 :: ts) (d :: ds)).all (· ≤ reachBytes) = true) (h : DataW.Trod enc Try.prog W base (fun _ => true) held 22 (.slice a len cap) d p) : OpsIn W a len := by
  obtain ⟨fuel, hf⟩ := h
  have hC : Try.prog.cellsOf 30 = 3 := by kernel_rfl
  rcases open_slice Try.underlying22 hf with ⟨hcs, _⟩ | ⟨a', l, c, m', n, D, Pl, hcs, hb, hl, hmx, hm', hx, hi⟩
  · simp [Value.cells] at hcs
    obtain ⟨rfl, rfl, rfl⟩ := hcs
    exact fun h => absurd h (by omega)
  · simp [Value.cells] at hcs
    obtain ⟨rfl, rfl, rfl⟩ := hcs
    simp only [if_true] at hm'
    subst hm'
    have hd : d = .slice ((List.range len).map D) ((List.range (m' - len)).map fun j => D (len + j)) := congrArg Prod.fst hx
    have f : ∀ i, i < len → ∃ (k x : Int) (B : Option Addr) (m c : Nat) (bs : List Int), W.cell? ((a'.add (i * 3)).add 0) = some (.int .i64 k) ∧ W.cell? ((a'.add (i * 3)).add 1) = some (.slice B m c) ∧ W.cell? ((a'.add (i * 3)).add 2) = some (.int .i64 x) ∧
        (-9223372036854775808 ≤ k ∧ k ≤ 9223372036854775807) ∧ BRow W B m bs ∧ m ≤ c ∧ m ≤ 140737488355328 ∧ (B = none → m = 0) := by
      intro i hil
      obtain ⟨cs', hc, ht'⟩ := hi i (by omega)
      rw [hC] at hc
      obtain ⟨_, hcl, hat⟩ := World.cells?_some hc
      obtain ⟨xs, n', _, hxx, hl3, hx3, hfs⟩ := DataW.trod_struct Try.underlying30 ht'
      rw [hC] at hl3
      obtain ⟨v0, v1, v2, rfl⟩ : ∃ v0 v1 v2, cs' = [v0, v1, v2] := by
        match cs', hl3 with
        | [v0, v1, v2], _ => exact ⟨v0, v1, v2, rfl⟩
      obtain ⟨y0, y1, y2, rfl⟩ : ∃ y0 y1 y2, xs = [y0, y1, y2] := by
        match xs, hx3 with
        | [y0, y1, y2], _ => exact ⟨y0, y1, y2, rfl⟩
      have e3 : Try.prog.cellsOf 3 = 1 := by kernel_rfl
      have e28 : Try.prog.cellsOf 28 = 1 := by kernel_rfl
      have h0 := hfs 0 _ rfl
      have h1 := hfs 1 _ rfl
      have h2 := hfs 2 _ rfl
      simp only [e3, e28, List.drop_zero, List.take_succ_cons, List.take_zero, List.drop_succ_cons, List.getElem?_cons_zero, List.getElem?_cons_succ] at h0 h1 h2
      obtain ⟨k, hk, _, hkw⟩ := DataW.trod_int Try.underlying3 h0
      obtain ⟨x, hx', _, hxw⟩ := DataW.trod_int Try.underlying3 h2
      injection hk with hk
      injection hx' with hx'
      subst hk hx'
      have c0 := hat 0 (by omega)
      have c1 := hat 1 (by omega)
      have c2 := hat 2 (by omega)
      have hDi : D i = .agg [y0.1, y1.1, y2.1] := congrArg Prod.fst hxx
      rcases open_ints Try.underlying28 Try.underlying5 (by kernel_rfl) h1 with ⟨hv, _⟩ | ⟨ad, ln, cp, zs, hv, _, hl1, hm1, hz, hy1, hcell, hzw⟩
      · injection hv with hv
        subst hv
        exact ⟨k, x, none, 0, 0, [], c0, c1, c2, wf_i64 hkw, ⟨rfl, fun h => absurd h (by omega)⟩, by omega, by omega, fun _ => rfl⟩
      · injection hv with hv
        subst hv
        simp only [if_true] at hz
        have hw : (ln + (zs.drop ln).length) * Try.prog.bytesOf 5 ≤ reachBytes := by
          refine of_decide_eq_true (List.all_eq_true.1 hsz _ (DataW.weights_mem_each (j := 0) (t := 22) (d := d) rfl rfl _ ?_))
          rw [hd]
          simp only [DataW.weights, Try.underlying22, List.mem_cons, List.mem_append]
          refine Or.inr (Or.inl (all_mem (d := D i) (List.mem_map.2 ⟨i, List.mem_range.2 hil, rfl⟩) _ ?_))
          rw [hDi]
          simp only [DataW.weights, Try.underlying30, DataW.weightsEach, List.map_cons, List.mem_append]
          refine Or.inr (Or.inl ?_)
          have hy : y1.1 = .slice (lits .u8 (zs.take ln)) (lits .u8 (zs.drop ln)) := congrArg Prod.fst hy1
          rw [hy]
          simp only [DataW.weights, Try.underlying28, List.mem_cons]
          refine Or.inl ?_
          have q1 : (lits (H := H) .u8 (zs.take ln)).length = ln := by simp [lits]; omega
          have q2 : (lits (H := H) .u8 (zs.drop ln)).length = (zs.drop ln).length := by simp [lits]
          rw [q1, q2]
        have hb5 : Try.prog.bytesOf 5 = 1 := by kernel_rfl
        rw [hb5] at hw
        have hr47 := reachBytes_lt
        have hrow : IsRow .u8 W (some ad) ln cp zs := .inr ⟨_, rfl, hl1, hm1, by simpa using hz, hcell, hzw⟩
        refine ⟨k, x, some ad, ln, cp, zs.take ln, c0, c1, c2, wf_i64 hkw, ⟨by simp; omega, fun hp => ?_⟩, hl1, by simp at hw; omega, fun h => by cases h⟩
        obtain ⟨b, o, hb1, hb2, hb3⟩ := hrow.at_ hp
        refine ⟨b, o, hb1, hb2, fun j hj => ?_⟩
        rw [hb3 j (by omega)]
        simp [hj]
    intro hp
    obtain ⟨g, o, spot⟩ := a'
    obtain ⟨k0, x0, B0, m0, c0, bs0, h00, _⟩ := f 0 hp
    have hspot : spot = none := by simpa [Addr.add] using World.cell?_spot h00
    subst hspot
    refine ⟨g, o, rfl, ?_, fun i hi' => ?_⟩
    · have := block_lt_of_cell h00
      simpa [Addr.add] using this
    · obtain ⟨k, x, B, m, c, bs, h1, h2, h3, h4⟩ := f i hi'
      exact ⟨k, x, B, m, c, bs, cell_add h1, cell_add h2, cell_add h3, h4⟩
end Go.Proofs.Ytiooikjaalphiaa
