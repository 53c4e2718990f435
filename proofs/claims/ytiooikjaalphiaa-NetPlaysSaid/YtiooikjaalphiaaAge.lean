/-
  The walks of Age's closure, and of the library's IndexFunc and DeleteFunc, as Age calls them. No condition.
-/
import Derived.Test.YtiooikjaalphiaaTakes
import Derived.Lib.SliceRun
namespace Go.Proofs.Ytiooikjaalphiaa
open Go.ChangeShapes Go.WideShapes Go.ChangeAt Go.RowKit
set_option linter.unusedVariables false
set_option linter.unusedSimpArgs false

def small (n : Int) : Prop := -1000000 ≤ n ∧ n ≤ 1000000
def old (now b : Int) : Bool := decide (8 ≤ now - b)
theorem old_pk (now : Int) (f : Nat) (p : Pk) (w : World) (hf : w.cell? ⟨f, 0, none⟩ = some (.int .i64 now)) (h1 : small now) (h2 : small p.born) :
    Calls Try.prog 26 #[.agg #[.slice (some ⟨p.g, 0, none⟩) p.bs.length p.bs.length, .int .i64 p.born], .pointer (some ⟨f, 0, none⟩)] w fun e w' => e = .returned (.bool (old now p.born)) ∧ Below w.heap.size w w' := by
  have hlt := block_lt_of_cell hf
  have c0 : (w.alloc (.cells #[.slice (some ⟨p.g, 0, none⟩) p.bs.length p.bs.length, .int .i64 p.born] 41)).cell? ⟨f, 0, none⟩ = some (.int .i64 now) := (((Below.refl w.heap.size w).alloc (Nat.le_refl _) _).cell (p := ⟨f, 0, none⟩) hlt).trans hf
  unfold small at h1 h2
  have e1 : wrap64 (now - p.born) = now - p.born := IntWalk.wrap64_in _ (by omega)
  have e2 : IntKind.i64.wrap (now - p.born) = now - p.born := IntWalk.i64_in _ (by omega)
  go_enter Try.func26, Try.ntmps26
  go_wp2
  go_ret
  exact ⟨ret_bool rfl, (Below.refl _ _).alloc (Nat.le_refl _) _⟩
/-- The place of the first that is too old, from place i on. -/
def fstOld (now : Int) : List Pk → Nat → Int
  | [], _ => -1
  | p :: t, i => if old now p.born = true then (i : Int) else fstOld now t (i + 1)
theorem row_cells {w : World} {g : Nat} {ps : List Pk} (h : CRow w ⟨g, 0, none⟩ (flatP ps)) (i : Nat) (hi : i < ps.length) : w.cell? ⟨g, i * 2, none⟩ = some (.slice (some ⟨ps[i].g, 0, none⟩) ps[i].bs.length ps[i].bs.length) ∧ w.cell? ⟨g, i * 2 + 1, none⟩ = some (.int .i64 ps[i].born) := by
  have h1 := h.2 (i * 2) _ (flatP_at ps i hi).1
  have h2 := h.2 (i * 2 + 1) _ (flatP_at ps i hi).2
  rw [Addr.add_mid] at h1 h2
  rw [Nat.zero_add] at h1 h2
  exact ⟨h1, h2⟩
theorem index_any (now : Int) (f g c : Nat) (ps : List Pk) (w : World) (hr : CRow w ⟨g, 0, none⟩ (flatP ps)) (hf : w.cell? ⟨f, 0, none⟩ = some (.int .i64 now)) (h1 : small now) (h2 : ∀ p ∈ ps, small p.born) (hn : ps.length ≤ 1000) :
    Calls Try.prog 28 #[.slice (some ⟨g, 0, none⟩) ps.length c, .func (.func 26) #[] #[.pointer (some ⟨f, 0, none⟩)]] w fun e w' => e = .returned (.int .i64 (fstOld now ps 0)) ∧ Below w.heap.size w w' := by
  have HR := Lib.hid hr
  have HF := Lib.hid hf
  have H2 := Lib.hid h2
  have H1 := Lib.hid h1
  have hflt := block_lt_of_cell hf
  obtain ⟨n, hN⟩ : ∃ n, ps.length = n := ⟨_, rfl⟩
  have HN := Lib.hid hN
  rw [hN] at hn ⊢
  clear hr hf h2 h1 hN
  go_enter Try.func28, Try.ntmps28
  go_wp2_with fail
  go_loopg [5, 8] (n + 1) (fun gk s5 s8 wr => ∃ i : Nat, s8 = .int .i64 i ∧ gk + i = n + 1 ∧ i ≤ n ∧ Hid (fstOld now ps 0 = fstOld now (ps.drop i) i ∧ Below w.heap.size w wr))
  case atStart => exact ⟨0, rfl, by omega, by omega, rfl, Below.refl _ _⟩
  case round =>
    obtain ⟨i, rfl, hgi, hin, HI⟩ := hrel
    by_cases hlt : i < n
    · have hil : i < ps.length := by have := HN.out; omega
      obtain ⟨x0, x1⟩ := row_cells (HR.out.later HI.out.2) i hil
      have hf2 : wr.cell? ⟨f, 0, none⟩ = some (.int .i64 now) := (HI.out.2.cell (p := ⟨f, 0, none⟩) hflt).trans HF.out
      have hsm := H2.out ps[i] (List.getElem_mem hil)
      have HC := Lib.hid (old_pk now f ps[i] wr hf2 H1.out hsm)
      have hd : fstOld now (ps.drop i) i = if old now ps[i].born = true then (i : Int) else fstOld now (ps.drop (i + 1)) (i + 1) := by
        rw [List.drop_eq_getElem_cons hil]; rfl
      have HD := Lib.hid hd
      generalize ps[i] = q at *
      clear hd hsm hf2
      by_cases ho : old now q.born = true
      · rw [ho] at HC HD
        clear ho
        go_wp2_with fail
        refine HC.out.mono ?_; rintro e w2 ⟨rfl, h3⟩
        have H3 := Lib.hid h3
        clear h3
        go_wp2_with fail
        go_ret
        refine ⟨ret_int ?_, HI.out.2.trans (H3.out.mono HI.out.2.size)⟩
        rw [HI.out.1, HD.out]; simp
      · have ho : old now q.born = false := by simpa using ho
        rw [ho] at HC HD
        clear ho
        go_wp2_with fail
        refine HC.out.mono ?_; rintro e w2 ⟨rfl, h3⟩
        have H3 := Lib.hid h3
        clear h3
        go_wp2_with fail
        go_roundg (gk - 1)
        case rel =>
          refine ⟨i + 1, by go_num, by omega, by omega, ?_, HI.out.2.trans (H3.out.mono HI.out.2.size)⟩
          rw [HI.out.1, HD.out]; simp
        case measure => omega
    · obtain rfl : i = n := by omega
      go_wp2_with fail
      go_ret
      refine ⟨ret_int ?_, HI.out.2⟩
      rw [HI.out.1, List.drop_eq_nil_of_le (by have := HN.out; omega)]
      rfl

theorem fst_keep (now : Int) : ∀ (ps : List Pk) (i : Nat), (fstOld now ps i = -1 ∧ ps.filter (fun p => !old now p.born) = ps) ∨ ∃ a p b, ps = a ++ p :: b ∧ fstOld now ps i = ((i + a.length : Nat) : Int) ∧ old now p.born = true ∧ a.filter (fun p => !old now p.born) = a
  | [], i => Or.inl ⟨rfl, rfl⟩
  | p :: t, i => by
    by_cases h : old now p.born = true
    · exact Or.inr ⟨[], p, t, rfl, by simp [fstOld, h], h, rfl⟩
    · have h' : old now p.born = false := by simpa using h
      rcases fst_keep now t (i + 1) with ⟨h1, h2⟩ | ⟨a, q, b, rfl, h1, h2, h3⟩
      · exact Or.inl ⟨by simp [fstOld, h', h1], by simp [h', h2]⟩
      · refine Or.inr ⟨p :: a, q, b, rfl, ?_, h2, by simp [h', h3]⟩
        simp only [fstOld, h', Bool.false_eq_true, if_false, h1, List.length_cons]
        congr 1
        omega
theorem flat_set : ∀ (row : List Pk) (i : Nat) (p : Pk), i < row.length → ((flatP row).set (i * 2) p.sl).set (i * 2 + 1) (.int .i64 p.born) = flatP (row.set i p)
  | q :: t, 0, p, _ => rfl
  | q :: t, i + 1, p, h => by
    have r := flat_set t i p (by simpa using h)
    have e : flatP (q :: t) = q.sl :: .int .i64 q.born :: flatP t := rfl
    have e2 : (q :: t).set (i + 1) p = q :: t.set i p := rfl
    rw [e, e2, show flatP (q :: t.set i p) = q.sl :: .int .i64 q.born :: flatP (t.set i p) from rfl, ← r, show (i + 1) * 2 = i * 2 + 1 + 1 by omega, show i * 2 + 1 + 1 + 1 = (i * 2 + 1) + 1 + 1 by omega]
    rfl
/-- The row while it is being sifted: kept ones, old ones, those still to be looked at. -/
structure Sift (now : Int) (ps : List Pk) (j : Nat) (kp mid : List Pk) : Prop where
  kept : kp = (ps.take j).filter (fun p => !old now p.born)
  len : kp.length + mid.length = j
  pos : 1 ≤ mid.length
theorem Sift.row {now : Int} {ps : List Pk} {j : Nat} {kp mid : List Pk} (h : Sift now ps j kp mid) (hj : j < ps.length) : (kp ++ mid ++ ps.drop j)[j]'(by have := h.len; simp; omega) = ps[j] := by
  have hl := h.len
  rw [List.getElem_append_right (by simp; omega)]
  simp [hl]
theorem Sift.gone {now : Int} {ps : List Pk} {j : Nat} {kp mid : List Pk} (h : Sift now ps j kp mid) (hj : j < ps.length) (ho : old now ps[j].born = true) : Sift now ps (j + 1) kp (mid ++ [ps[j]]) ∧ kp ++ mid ++ ps.drop j = kp ++ (mid ++ [ps[j]]) ++ ps.drop (j + 1) := by
  refine ⟨⟨?_, by have := h.len; simp; omega, by simp⟩, ?_⟩
  · rw [List.take_add_one, List.getElem?_eq_getElem hj, List.filter_append, h.kept]
    simp [ho]
  · rw [List.drop_eq_getElem_cons hj]; simp
theorem Sift.stays {now : Int} {ps : List Pk} {j : Nat} {kp mid : List Pk} (h : Sift now ps j kp mid) (hj : j < ps.length) (ho : old now ps[j].born = false) : ∃ mid', Sift now ps (j + 1) (kp ++ [ps[j]]) mid' ∧ (kp ++ mid ++ ps.drop j).set kp.length ps[j] = kp ++ [ps[j]] ++ mid' ++ ps.drop (j + 1) := by
  obtain ⟨m0, mt, rfl⟩ : ∃ m0 mt, mid = m0 :: mt := by
    cases mid with
    | nil => have := h.pos; simp at this
    | cons m0 mt => exact ⟨m0, mt, rfl⟩
  refine ⟨mt ++ [ps[j]], ⟨?_, by have := h.len; simp at this ⊢; omega, by simp⟩, ?_⟩
  · rw [List.take_add_one, List.getElem?_eq_getElem hj, List.filter_append, ← h.kept]
    simp [ho]
  · rw [List.drop_eq_getElem_cons hj]
    simp
end Go.Proofs.Ytiooikjaalphiaa
