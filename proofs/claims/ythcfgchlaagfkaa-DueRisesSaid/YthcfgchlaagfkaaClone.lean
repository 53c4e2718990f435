/-
  The walk of the library's Clone, as All calls it. No condition beyond a row of a machine's size.
-/
import Derived.Test.YthcfgchlaagfkaaLives
import Derived.Lib.SliceRun
namespace Go.Proofs.Ythcfgchlaagfkaa
open Go.ChangeShapes Go.WideShapes Go.ChangeAt Go.RowKit
set_option linter.unusedVariables false
set_option linter.unusedSimpArgs false

theorem flatI_one {l : List It} : ∀ u ∈ flatI l, u.oneCell' = true := by
  intro u hu
  simp only [flatI, List.mem_flatMap, It.val] at hu
  obtain ⟨p, _, hu⟩ := hu
  simp at hu
  rcases hu with rfl | rfl | rfl <;> rfl
set_option maxHeartbeats 800000 in
theorem clone_any (g n c B : Nat) (l : List It) (w : World) (h : Row w B (.slice (some ⟨g, 0, none⟩) n c) l) (hn : l.length = n) (hp : 0 < n) (hm : n ≤ 1000) :
    Calls Try.prog 23 #[.slice (some ⟨g, 0, none⟩) n c] w fun e w' => ∃ g2 c2, e = .returned (.slice (some ⟨g2, 0, none⟩) n c2) ∧ Row w' w.heap.size (.slice (some ⟨g2, 0, none⟩) n c2) l ∧ Below w.heap.size w w' := by
  obtain ⟨i0, hi, hz0, hz1, hz2⟩ := info_parts info51
  have HZ := Lib.hid (And.intro hi (And.intro hz0 (And.intro hz1 hz2)))
  have O0 : Hid ((w.alloc (.cells #[] 51)).ownsRow w.heap.size 51 3 (.slice (some ⟨w.heap.size, 0, none⟩) 0 0) 0 []) := ⟨rfl, Or.inr ⟨w.heap.size, 0, #[], rfl, Nat.le_refl _, heap_alloc_new w _, Nat.le_refl _, by unfold maxLen; omega, rfl, rfl⟩⟩
  have B0 : Hid (Below w.heap.size w (w.alloc (.cells #[] 51))) := (Below.refl _ _).alloc (Nat.le_refl _) _
  have HN : Hid (∀ j u, (flatI l)[j]? = some u → (w.alloc (.cells #[] 51)).cell? ((⟨g, 0, none⟩ : Addr).add j) = some u) := World.ownsRow.cells (h.later B0.out) rfl
  have hlen : Hid ((flatI l).length = n * 3) := by unfold Hid; rw [flatI_len, hn]
  have HL := Lib.hid hn
  have h63 : Hid (0 + n ≤ maxLen) := by unfold Hid maxLen; omega
  have h47 : Hid ((0 + n) * 24 ≤ 140737488355328) := by unfold Hid; omega
  have hsz : Hid (w.heap.size ≤ (w.alloc (.cells #[] 51)).heap.size) := by unfold Hid; simp
  have hq : (binOp .eql 44 (.slice (some ⟨g, 0, none⟩) n c) (.slice none 0 0)).run Try.prog w = .ok (.bool false) w := Lib.run_eql_slice_nil w 44 51 (some ⟨g, 0, none⟩) n c 0 0 Try.underlying44
  clear h hn hi hz0 hz1 hz2
  go_enter Try.func23, Try.ntmps23
  go_wp2_with (first
    | (at_builtin; refine wpList_append_own _ rfl _ _ 44 rfl w.heap.size 51 i0 _ 3 24 Try.underlying44 HZ.out.1 HZ.out.2.1 HZ.out.2.2.1 HZ.out.2.2.2 rfl (by decide) _ 0 [] rfl O0.out ⟨g, 0, none⟩ n c (flatI l) rfl hlen.out HN.out flatI_one h63.out h47.out hsz.out ?_; intro v' w1 hown hgrow hnil; have G1 := Lib.hid hown; have G2 := Lib.hid hgrow; have G3 := Lib.hid hnil; clear hown hgrow hnil)
    | fail)
  go_ret
  have g1 := G1.out
  rw [Nat.zero_add] at g1
  have hB := B0.out.grown G2.out hsz.out (fun k hk => (O0.out.lt k hk).1)
  have h3 := G3.out
  rcases g1.2 with ⟨rfl, h0⟩ | ⟨g2, cap, cur, rfl, _⟩
  · exact absurd (h3.1 rfl).1 (fun e => by cases e)
  · refine ⟨_, _, rfl, ?_, hB⟩
    unfold Row
    rw [HL.out]
    exact g1
end Go.Proofs.Ythcfgchlaagfkaa
