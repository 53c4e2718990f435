/-
  A flow that came in as an argument: its cells. No condition.
-/
import Derived.Test.YtmkjljblabdbhaaPairs
import Derived.Test.YtmkjljblabdbhaaRowsIn
namespace Go.Proofs.Ytmkjljblabdbhaa
open Go.ChangeShapes Go.WideShapes Go.ChangeAt Go.RowKit Go.Deep
set_option linter.unusedVariables false
set_option linter.unusedSimpArgs false

theorem c33 : Try.prog.cellsOf 33 = 16 := by kernel_rfl
theorem c3 : Try.prog.cellsOf 3 = 1 := by kernel_rfl
theorem c35 : Try.prog.cellsOf 35 = 34 := by kernel_rfl
theorem cut34 (L : List Value) (h : L.length = 34) : L = L.take 16 ++ ((L.drop 16).take 1 ++ ((L.drop 17).take 16 ++ (L.drop 33).take 1)) := by
  have e1 : L.drop 16 = (L.drop 16).take 1 ++ L.drop 17 := by
    have := (List.take_append_drop 1 (L.drop 16)).symm
    rwa [List.drop_drop] at this
  have e2 : L.drop 17 = (L.drop 17).take 16 ++ L.drop 33 := by
    have := (List.take_append_drop 16 (L.drop 17)).symm
    rwa [List.drop_drop] at this
  have e3 : (L.drop 33).take 1 = L.drop 33 := List.take_of_length_le (by rw [List.length_drop]; omega)
  rw [e3, ← e2, ← e1, List.take_append_drop]
theorem flow_of {H : Type} {enc : TypeId × Value → H} {w : World} {base : Nat} {spare : Nat → Bool} {held : Bool} {fuel : Nat} {cs : Array Value} {x : DataW H × List MemPlace} (h : DataW.trod enc Try.prog w base spare held fuel 35 cs.toList = some x) :
    ∃ src sp dst dp, FlowIs cs src sp dst dp := by
  obtain ⟨xs, m, _, _, hl, hx, hi⟩ := DataW.trod_struct Try.underlying35 h
  have g0 : DataW.trod enc Try.prog w base spare held m 33 ((cs.toList.drop 0).take (Try.prog.cellsOf 33)) = xs[0]? := hi 0 _ rfl
  have g1 : DataW.trod enc Try.prog w base spare held m 3 ((cs.toList.drop 16).take (Try.prog.cellsOf 3)) = xs[1]? := hi 1 _ rfl
  have g2 : DataW.trod enc Try.prog w base spare held m 33 ((cs.toList.drop 17).take (Try.prog.cellsOf 33)) = xs[2]? := hi 2 _ rfl
  have g3 : DataW.trod enc Try.prog w base spare held m 3 ((cs.toList.drop 33).take (Try.prog.cellsOf 3)) = xs[3]? := hi 3 _ rfl
  have hx4 : xs.length = 4 := hx
  rw [List.getElem?_eq_getElem (by omega)] at g0 g1 g2 g3
  simp only [c33, c3, List.drop_zero] at g0 g1 g2 g3
  rw [c35] at hl
  obtain ⟨src, ls, is⟩ := ints_of_array Try.underlying33 Try.underlying5 (by kernel_rfl) c33 g0
  obtain ⟨dst, ld, id⟩ := ints_of_array Try.underlying33 Try.underlying5 (by kernel_rfl) c33 g2
  obtain ⟨sp, hsp, _, wsp⟩ := DataW.trod_int Try.underlying3 g1
  obtain ⟨dp, hdp, _, wdp⟩ := DataW.trod_int Try.underlying3 g3
  refine ⟨src, sp, dst, dp, ?_, ls, ld, fun z hz => wf_u8 (is.2 z hz), fun z hz => wf_u8 (id.2 z hz), wf_i64 wsp, wf_i64 wdp⟩
  have e := cut34 _ hl
  rw [is.1, hsp, id.1, hdp] at e
  exact e
end Go.Proofs.Ytmkjljblabdbhaa
