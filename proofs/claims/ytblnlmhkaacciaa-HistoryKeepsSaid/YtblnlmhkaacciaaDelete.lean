/-
  The walk of slices.Delete of the first of four versions. No condition.
-/
import Derived.Test.YtblnlmhkaacciaaMay
namespace Go.Proofs.Ytblnlmhkaacciaa
open Go.ChangeShapes Go.WideShapes Go.ChangeAt Go.RowKit
set_option linter.unusedVariables false
set_option linter.unusedSimpArgs false

theorem info32 : (Try.prog.info? 32).map (fun i => (i.zero, i.size, i.bytes)) = some (some (.agg #[.int .i64 0, .int .i64 0, .int .i64 0, .slice none 0 0]), 4, 48) := by kernel_rfl
theorem setCells_blk : ∀ (l : List Value) (w : World) (g o : Nat) (t : TypeId) (cs : Array Value), Blk w g t cs → o + l.length ≤ cs.size → ∃ ds, Blk (w.setCells g o l) g t ds ∧ ds.size = cs.size ∧ (∀ j, j < l.length → ds[o + j]? = l[j]?) ∧ ∀ j, j < o → ds[j]? = cs[j]?
  | [], w, g, o, t, cs, h, _ => ⟨cs, h, rfl, (fun _ h => by cases h), fun _ _ => rfl⟩
  | x :: l, w, g, o, t, cs, h, hl => by
    simp only [List.length_cons] at hl
    obtain ⟨ds, h1, h2, h4, h3⟩ := setCells_blk l (w.setCell ⟨g, o, none⟩ x) g (o + 1) t _ (h.put o x rfl) (by simp; omega)
    refine ⟨ds, h1, by rw [h2]; simp, fun j hj => ?_, fun j hj => ?_⟩
    · cases j with
      | zero =>
        rw [Nat.add_zero, h3 o (by omega), Array.getElem?_setIfInBounds, if_pos rfl, if_pos (by omega)]; rfl
      | succ j =>
        simp only [List.length_cons] at hj
        rw [show o + (j + 1) = o + 1 + j by omega, h4 j (by omega)]; rfl
    · rw [h3 j (by omega), Array.getElem?_setIfInBounds, if_neg (by omega)]
theorem setCells_chg {S : Nat → Prop} {w0 : World} : ∀ (l : List Value) (w : World) (g o : Nat), Chg S w0 w → S g → Chg S w0 (w.setCells g o l)
  | [], w, g, o, h, _ => h
  | x :: l, w, g, o, h, hs => setCells_chg l _ g (o + 1) (Chg.put h (Or.inl hs) x) hs
theorem run_clear4 (w : World) (g o m c : Nat) (cs : Array Value) (t : TypeId) (hb : Blk w g t cs) (hm : 0 < m) (hfit : o + m * 4 ≤ cs.size) :
    ∃ zs : List Value, zs.length = m * 4 ∧ ∀ ty, (Builtin.clear_ #[25] ty #[.slice (some ⟨g, o, none⟩) m c]).run Try.prog w = .ok (.tuple #[]) (w.setCells g o zs) := by
  obtain ⟨i0, hi, hz0, hz1, hz2⟩ := info_parts info32
  obtain ⟨zs, hzs⟩ : ∃ zs, (Builtin.zeroCells (Value.agg #[.int .i64 0, .int .i64 0, .int .i64 0, .slice none 0 0]).cells m).toList = zs := ⟨_, rfl⟩
  have hl : zs.length = m * 4 := by rw [← hzs]; simp [Builtin.zeroCells, Value.cells]
  have hone : ∀ v ∈ zs, v.oneCell' = true := by
    intro v hv
    rw [← hzs] at hv
    simp only [Builtin.zeroCells, Value.cells, Array.toList_map, List.mem_map] at hv
    obtain ⟨a, _, rfl⟩ := hv
    have : a % 4 = 0 ∨ a % 4 = 1 ∨ a % 4 = 2 ∨ a % 4 = 3 := by omega
    rcases this with h | h | h | h <;> simp [h, Value.oneCell']
  have hst := run_storeCells_cells (P := Try.prog) g o zs 0 w (fun j hj => by
      rw [show o + 0 + j = o + j by omega, hb.cell, Array.getElem?_eq_getElem (by omega)]; rfl) (fun j hj => hb.free _) hone
  have hv : ∀ w, (zeroValue 32).run Try.prog w = .ok (.agg #[.int .i64 0, .int .i64 0, .int .i64 0, .slice none 0 0]) w := fun w => by simp [zeroValue, typeInfo, hi, hz0]
  simp only [Nat.add_zero] at hst
  obtain ⟨k, rfl⟩ : ∃ k, m = k + 1 := ⟨m - 1, by omega⟩
  exact ⟨zs, hl, fun ty => by simp [Builtin.clear_, run_underlying Try.underlying25, hv, hzs, hst]⟩
theorem row_blk {w : World} {B g n c : Nat} {X : List Value} (h : w.ownsRow B 32 4 (.slice (some ⟨g, 0, none⟩) n c) n X) : B ≤ g ∧ ∃ cs, Blk w g 32 cs ∧ cs.size = c * 4 ∧ cs.toList.take (n * 4) = X ∧ n ≤ c ∧ c ≤ maxLen := by
  rcases h.2 with ⟨hv, _⟩ | ⟨g', cap, cur, hv, h1, h2, h3, h4, h5, h6⟩
  · injection hv with hA; cases hA
  · injection hv with hA e1 e2
    injection hA with hA
    injection hA with hA
    subst hA e2
    exact ⟨h1, cur, h2, h5, h6, h3, h4⟩
theorem flatV_one {vs : List Ver} : ∀ u ∈ flatV vs, u.oneCell' = true := by
  intro u hu
  simp only [flatV, List.mem_flatMap] at hu
  obtain ⟨s, _, hu⟩ := hu
  simp [Ver.val, Ver.sl] at hu
  rcases hu with rfl | rfl | rfl | rfl <;> rfl
theorem own_of {w : World} {B g n c : Nat} {cs : Array Value} {vs : List Ver} (hb : Blk w g 32 cs) (hB : B ≤ g) (hs : cs.size = c * 4) (hn : vs.length = n) (hnc : n ≤ c) (hc : c ≤ maxLen) (h : ∀ j, j < n * 4 → cs[j]? = (flatV vs)[j]?) :
    w.ownsRow B 32 4 (.slice (some ⟨g, 0, none⟩) n c) n (flatV vs) := by
  refine ⟨by rw [flatV_len, hn], Or.inr ⟨g, c, cs, rfl, hB, hb, hnc, hc, hs, ?_⟩⟩
  apply List.ext_getElem?
  intro j
  rw [List.getElem?_take]
  split
  · rename_i hj
    simpa using h j hj
  · rw [List.getElem?_eq_none (by rw [flatV_len]; omega)]
set_option maxHeartbeats 1600000 in
theorem delete_any (B g c : Nat) (p : Ver) (t : List Ver) (w : World) (hr : w.ownsRow B 32 4 (.slice (some ⟨g, 0, none⟩) 4 c) 4 (flatV (p :: t))) (ht : t.length = 3) :
    Calls Try.prog 19 #[.slice (some ⟨g, 0, none⟩) 4 c, .int .i64 0, .int .i64 1] w fun e w' => e = .returned (.slice (some ⟨g, 0, none⟩) 3 c) ∧ w'.ownsRow B 32 4 (.slice (some ⟨g, 0, none⟩) 3 c) 3 (flatV t) ∧ Chg (fun k => k = g) w w' := by
  obtain ⟨hBg, cs, hb, hcs, htk, hnc, hcm⟩ := row_blk hr
  obtain ⟨i0, hi, hz0, hz1, hz2⟩ := info_parts info32
  have hfl : (flatV t).length = 3 * 4 := by rw [flatV_len, ht]
  have hcell : ∀ j, j < 16 → cs[j]? = (flatV (p :: t))[j]? := fun j hj => by
    have : cs[j]? = (cs.toList.take 16)[j]? := by rw [List.getElem?_take, if_pos hj]; simp
    rw [this]; exact congrArg (fun l => l[j]?) htk
  have hnews : ∀ j u, (flatV t)[j]? = some u → w.drew.cell? ((⟨g, 4, none⟩ : Addr).add j) = some u := fun j u hj => by
    have hjl : j < 12 := by have := (List.getElem?_eq_some_iff.1 hj).1; omega
    rw [Addr.add_mid, hb.draw.cell, hcell _ (by omega), show 4 + j = j + 1 + 1 + 1 + 1 by omega]
    exact hj
  have hspare : ∀ j, j < (flatV t).length → (w.drew.cell? ⟨g, 0 + 0 * 4 + j, none⟩).isSome = true ∧ w.drew.frozen? ⟨g, 0 + 0 * 4 + j, none⟩ = false := fun j hj => by
    refine ⟨?_, hb.draw.free _⟩
    rw [hb.draw.cell, Array.getElem?_eq_getElem (by omega)]; rfl
  obtain ⟨ds, d1, d2, d4, d3⟩ := setCells_blk (flatV t) w.drew g (0 + 0 * 4) 32 cs hb.draw (by omega)
  obtain ⟨zs, hzl, hclr⟩ := run_clear4 (w.drew.setCells g (0 + 0 * 4) (flatV t)) g 12 1 (c - 3) ds 32 d1 (by omega) (by omega)
  obtain ⟨es, e1, e2, e4, e3⟩ := setCells_blk zs _ g 12 32 ds d1 (by omega)
  have HR : Hid (((w.drew.setCells g (0 + 0 * 4) (flatV t)).setCells g 12 zs).ownsRow B 32 4 (.slice (some ⟨g, 0, none⟩) 3 c) 3 (flatV t)) := own_of e1 hBg (by rw [e2, d2, hcs]) ht (by omega) hcm (fun j hj => by
    rw [e3 j (by omega), ← d4 j (by omega), Nat.zero_mul, Nat.zero_add])
  have HCH : Hid (Chg (fun k => k = g) w ((w.drew.setCells g (0 + 0 * 4) (flatV t)).setCells g 12 zs)) := setCells_chg _ _ _ _ (setCells_chg _ _ _ _ (Chg.refl _ _).draw rfl) rfl
  have HN := Lib.hid hnews
  have HS := Lib.hid hspare
  have HF := Lib.hid hfl
  have HI := Lib.hid hi
  have HZ1 := Lib.hid hz1
  have q1 : 4 ≤ c := hnc
  have q2 : (4 : Int) ≤ (c : Int) := by omega
  have q3 : (1 : Int) ≤ (c : Int) := by omega
  have q4 : ¬ c = 1 := by omega
  have q5 : ¬ c = 3 := by omega
  have q6 : c ≤ 9223372036854775807 := by unfold maxLen at hcm; exact hcm
  have q7 : (0 : Int) ≤ (c : Int) := by omega
  have q8 : (3 : Int) ≤ (c : Int) := by omega
  obtain ⟨W2, hW2⟩ : ∃ W2, w.drew.setCells g (0 + 0 * 4) (flatV t) = W2 := ⟨_, rfl⟩
  have HW2 := Lib.hid hW2
  rw [hW2] at hclr HR HCH
  clear hr hb hcs htk hi hz0 hz1 hz2 hcell hnews hspare d1 d2 d3 d4 e1 e2 e3 e4 hfl hzl hW2 hnc hcm
  go_enter Try.func19, Try.ntmps19
  go_wp2_with fail
  go_region_law (refine step_append_room rfl _ _ 25 rfl 32 i0 4 Try.underlying25 HI.out HZ1.out g 0 0 c (by simp [Act.eval, Act.put]) ⟨g, 4, none⟩ 3 (c - 1) (flatV t) (by simp [Act.eval, Act.put]) HF.out HN.out flatV_one (by omega) HS.out ?_)
  all_goals
    rw [HW2.out]
    go_wp2_with fail
    go_ret
    exact ⟨rfl, HR.out, HCH.out⟩
end Go.Proofs.Ytblnlmhkaacciaa
