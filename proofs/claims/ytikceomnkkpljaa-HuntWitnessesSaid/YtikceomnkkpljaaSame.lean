/-
  The walk of same, at two rows of the same addresses. No condition beyond a length that is no machine's.
-/
import Derived.Test.YtikceomnkkpljaaEq
namespace Go.Proofs.Ytikceomnkkpljaa
open Go.ChangeShapes Go.WideShapes Go.ChangeAt Go.RowKit
set_option linter.unusedVariables false
set_option linter.unusedSimpArgs false

def AR (w : World) (A : Option Addr) (l : List Seg) : Prop := 0 < l.length → ∃ g, A = some ⟨g, 0, none⟩ ∧ g < w.heap.size ∧ ∀ j u, (flatA l)[j]? = some u → w.cell? ⟨g, j, none⟩ = some u
theorem OwnA.ar {w : World} {B n c : Nat} {A : Option Addr} {l : List Seg} (h : OwnA w B (.slice A n c) l) : AR w A l := fun hl => by
  obtain ⟨g, c', e, _, _, h2, h3⟩ := h.row hl
  injection e with e1
  subst e1
  exact ⟨g, rfl, h2, h3⟩
theorem AR.later {w v : World} {A : Option Addr} {l : List Seg} (h : AR w A l) (hb : Below w.heap.size w v) : AR v A l := fun hl => by
  obtain ⟨g, e, hg, hc⟩ := h hl
  exact ⟨g, e, Nat.lt_of_lt_of_le hg hb.size, fun j u hj => (hb.cell (p := ⟨g, _, none⟩) hg).trans (hc j u hj)⟩
theorem flatA_at : ∀ (l : List Seg) (i : Nat) (h : i < l.length) (j : Nat) (u : Value), (Seg.cells l[i])[j]? = some u → (flatA l)[i * 16 + j]? = some u
  | s :: t, 0, h, j, u, hj => by
    have hl : j < (Seg.cells s).length := (List.getElem?_eq_some_iff.1 hj).1
    show (Seg.cells s ++ flatA t)[0 * 16 + j]? = _
    rw [List.getElem?_append_left (by omega)]
    simpa using hj
  | s :: t, i + 1, h, j, u, hj => by
    have ih := flatA_at t i (by simpa using h) j u hj
    show (Seg.cells s ++ flatA t)[(i + 1) * 16 + j]? = _
    rw [List.getElem?_append_right (by rw [Seg.len]; omega), Seg.len, show (i + 1) * 16 + j - 16 = i * 16 + j by omega]
    exact ih
theorem AR.range {w : World} {g : Nat} {l : List Seg} (hc : ∀ j u, (flatA l)[j]? = some u → w.cell? ⟨g, j, none⟩ = some u) (i : Nat) (h : i < l.length) : w.rangeAt g (i * 16) (Seg.cells l[i]) := fun j u hj => hc _ _ (flatA_at l i h j u hj)
theorem load34 {w : World} {g k : Nat} {s : Seg} (h : w.rangeAt g k (Seg.cells s)) : (loadVar 34 ⟨g, k, none⟩).run Try.prog w = .ok (.agg (Seg.cells s).toArray) w :=
  run_loadVar_mid w g k 34 (Seg.cells s) _ h Try.underlying34 rfl (by rw [size34, Seg.len])
attribute [-go_sem] loadVar in
theorem same_any (A A2 : Option Addr) (n c c2 : Nat) (l : List Seg) (w : World) (h1 : AR w A l) (h2 : AR w A2 l) (hn : l.length = n) (hm : n ≤ 1000000) :
    Calls Try.prog 9 #[.slice A n c, .slice A2 n c2] w fun e w' => e = .returned (.bool true) ∧ Below w.heap.size w w' := by
  have H1 := Lib.hid h1
  have H2 := Lib.hid h2
  have HL := Lib.hid hn
  clear h1 h2 hn
  go_enter Try.func9, Try.ntmps9
  go_wp2_with fail
  go_loopg [5] (n + 1) (fun gk s5 wr => ∃ i : Nat, s5 = .int .i64 i ∧ gk + i = n + 1 ∧ i ≤ n ∧ Hid (Below w.heap.size w wr))
  case atStart => exact ⟨0, rfl, by omega, by omega, (Below.refl _ _)⟩
  case round =>
    obtain ⟨i, rfl, hgi, hin, HI⟩ := hrel
    by_cases hlt : i < n
    · have hil : i < l.length := by have := HL.out; omega
      obtain ⟨g, rfl, hg, hc⟩ := H1.out (by omega)
      obtain ⟨g2, rfl, hg2, hc2⟩ := H2.out (by omega)
      have r1 := load34 (AR.range (w := wr.drew) (g := g) (fun j u hj => (HI.out.cell (p := ⟨g, _, none⟩) hg).trans (hc j u hj)) i hil)
      have r2 := load34 (AR.range (w := wr.drew) (g := g2) (fun j u hj => (HI.out.cell (p := ⟨g2, _, none⟩) hg2).trans (hc2 j u hj)) i hil)
      obtain ⟨sg, hsg⟩ : ∃ sg, l[i] = sg := ⟨_, rfl⟩
      rw [hsg] at r1 r2
      obtain ⟨sn, sd, sa⟩ := sg
      have heq := eq34 (adrL sn sd sa) (adrL sn sd sa) rfl rfl wr.drew
      rw [decide_eq_true rfl] at heq
      obtain ⟨cs, hcs⟩ : ∃ cs, (u8s (adrL sn sd sa)).toArray = cs := ⟨_, rfl⟩
      have r1' : (loadVar 34 ⟨g, i * 16, none⟩).run Try.prog wr.drew = .ok (.agg cs) wr.drew := by rw [← hcs]; exact r1
      have r2' : (loadVar 34 ⟨g2, i * 16, none⟩).run Try.prog wr.drew = .ok (.agg cs) wr.drew := by rw [← hcs]; exact r2
      rw [hcs] at heq
      clear r1 r2 hcs
      have b1 : (0 : Int) ≤ (i : Int) := Int.natCast_nonneg i
      have b2 : (i : Int) < (n : Int) := Int.ofNat_lt.2 hlt
      clear hc hc2 hsg
      go_wp2_with fail
      go_region
      all_goals
        go_wp2_with fail
        go_roundg (gk - 1)
        case rel => exact ⟨i + 1, by go_num, by omega, by omega, HI.out.drew⟩
        case measure => omega
    · obtain rfl : i = n := by omega
      go_wp2_with fail
      go_ret
      exact ⟨rfl, HI.out⟩
end Go.Proofs.Ytikceomnkkpljaa
