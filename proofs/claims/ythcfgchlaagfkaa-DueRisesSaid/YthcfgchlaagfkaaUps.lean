/-
  The walk of heap.up. No condition beyond a row of a machine's size.
-/
import Derived.Test.YthcfgchlaagfkaaHeapL
import Derived.Lib.SliceRun
namespace Go.Proofs.Ythcfgchlaagfkaa
open Go.ChangeShapes Go.WideShapes Go.ChangeAt Go.RowKit
set_option linter.unusedVariables false
set_option linter.unusedSimpArgs false

section
variable {w w' : World} {B Q f : Nat} {T : TypeId} {cs : Array Value} {v : Value} {l : List It}
theorem par_quo (q : Nat) : Int.tdiv ((q : Int) - 1) 2 = (par q : Int) := by
  unfold par
  rcases Nat.eq_zero_or_pos q with h | h
  · subst h; rfl
  · rw [Int.tdiv_eq_ediv_of_nonneg (by omega)]; omega
/-- How a heap stands while it is mended. -/
structure Mend (w : World) (B Q f : Nat) (T : TypeId) (cs : Array Value) (v : Value) (l : List It) (wr : World) (l' : List It) : Prop where
  at_ : At wr B Q f T cs v l'
  perm : l'.Perm l
  chg : Chg (fun k => v.ownBlock = some k) w wr
theorem Mend.refl (h : At w B Q f T cs v l) : Mend w B Q f T cs v l w l := ⟨h, .refl _, Chg.refl _ _⟩
theorem Mend.later {l' : List It} {wr w2 : World} (h : Mend w B Q f T cs v l wr l') (hb : Below wr.heap.size wr w2) : Mend w B Q f T cs v l w2 l' :=
  ⟨h.at_.later hb, h.perm, h.chg.trans ((Chg.of_below hb).mono (fun _ _ e => e)) (fun _ _ e => e)⟩
theorem Mend.swap {l' : List It} {wr w2 : World} {i k : Nat} (h : Mend w B Q f T cs v l wr l') (hi : i < l'.length) (hk : k < l'.length) (hr : Row w2 B v (swapL l' i k l'[i] l'[k])) (hc : Chg (fun b => v.ownBlock = some b) wr w2) : Mend w B Q f T cs v l w2 (swapL l' i k l'[i] l'[k]) :=
  ⟨h.at_.turned hr hc, (swapL_perm l' i k hi hk).trans h.perm, h.chg.trans hc (fun _ _ e => e)⟩
theorem Mend.len {l' : List It} {wr : World} (h : Mend w B Q f T cs v l wr l') : l'.length = l.length := h.perm.length_eq
set_option maxHeartbeats 1600000 in
theorem up_any (h : At w B Q f T cs v l) (j : Nat) (hj : j < l.length) (ha : AlmostUp l j) (hm : l.length ≤ 1000001) :
    Calls Try.prog 27 #[.iface 49 (.pointer (some ⟨Q, f, none⟩)), .int .i64 (j : Int)] w fun e w' => (∃ r, e = .returned r) ∧ ∃ l', Mend w B Q f T cs v l w' l' ∧ IsHeap l' := by
  obtain ⟨A, c, rfl⟩ := h.row.form
  obtain ⟨n, hn⟩ : ∃ n, l.length = n := ⟨_, rfl⟩
  rw [hn] at h hm ⊢
  obtain ⟨g, rfl, hc, hc2⟩ := h.row.some_ hn (by omega)
  have H0 := Lib.hid h
  have HA := Lib.hid ha
  have HN := Lib.hid hn
  rw [hn] at hj
  clear h ha hn
  go_enter Try.func27, Try.ntmps27
  go_wp2_with fail
  go_loopg [1, 4] (j + 1) (fun gk s1 s4 wr => ∃ q : Nat, s1 = .int .i64 q ∧ gk = q + 1 ∧ q < n ∧ Hid (∃ l', Mend w B Q f T cs (.slice (some ⟨g, 0, none⟩) n c) l wr l' ∧ AlmostUp l' q))
  case atStart => exact ⟨j, rfl, rfl, hj, l, Mend.refl H0.out, HA.out⟩
  case round =>
    obtain ⟨q, rfl, rfl, hq, l', HM, HU⟩ := hrel
    have x0 := HM.at_.holds
    have hl := HM.len.trans HN.out
    have ML := Lib.hid HM
    have UL := Lib.hid HU
    have HL := Lib.hid hl
    have hml := meth_less ⟨Q, f, none⟩ (some ⟨g, 0, none⟩) n c wr x0
    have e1 : wrap64 ((q : Int) - 1) = (q : Int) - 1 := IntWalk.wrap64_in _ (by omega)
    have e2 : IntKind.i64.wrap ((q : Int) - 1) = (q : Int) - 1 := IntWalk.i64_in _ (by omega)
    have e3 : Int.tdiv ((q : Int) - 1) 2 = (par q : Int) := par_quo q
    have e4 : wrap64 (par q : Int) = (par q : Int) := IntWalk.wrap64_in _ (by unfold par; omega)
    have e5 : IntKind.i64.wrap (par q : Int) = (par q : Int) := IntWalk.i64_in _ (by unfold par; omega)
    by_cases h0 : q = 0
    · subst h0
      clear HM HU hl
      go_wp2_with fail
      go_end0
      exact ⟨⟨_, rfl⟩, l', ML.out, UL.out.root⟩
    · have hpl : par q < l'.length := by unfold par; omega
      have hql : q < l'.length := by omega
      have hpq : ¬ (par q : Int) = (q : Int) := by unfold par; omega
      have HLS := Lib.hid (itemsLess_any g n c B q (par q) l' wr HM.at_.row hl hql hpl (by omega))
      by_cases hb : lessB l'[q] l'[par q] = true
      · rw [hb] at HLS
        have hle : leI (gx l' q) (gx l' (par q)) := by rw [gx_at l' q hql, gx_at l' (par q) hpl]; exact less_le hb
        have HLE := Lib.hid hle
        have HPL := Lib.hid hpl
        have HQL := Lib.hid hql
        have hpq2 : par q < q := by unfold par; omega
        clear HM HU hl hb hle hpl hql
        go_wp2_with fail
        refine HLS.out.mono ?_; rintro e w2 ⟨rfl, h2⟩
        have M2 := Lib.hid (ML.out.later h2)
        have x2 := M2.out.at_.holds
        have hms := meth_swap ⟨Q, f, none⟩ (some ⟨g, 0, none⟩) n c w2 x2
        have HS := Lib.hid (swap_any g n c B (par q) q l' w2 M2.out.at_.row HL.out HPL.out HQL.out (by omega))
        clear h2
        go_wp2_with fail
        refine HS.out.mono ?_; rintro e w3 ⟨⟨r, rfl⟩, h3, h4⟩
        have M3 := Lib.hid (M2.out.swap HPL.out HQL.out h3 (h4.mono (fun b _ e => by rw [e]; rfl)))
        have U3 := Lib.hid (UL.out.step HQL.out (by omega) HLE.out)
        clear h3 h4
        go_wp2_with fail
        go_roundg (par q + 1)
        case rel => exact ⟨par q, rfl, rfl, by omega, _, M3.out, U3.out⟩
        case measure => omega
      · have hb2 : lessB l'[q] l'[par q] = false := by simpa using hb
        rw [hb2] at HLS
        have hle : leI (gx l' (par q)) (gx l' q) := by rw [gx_at l' q hql, gx_at l' (par q) hpl]; exact notless_le hb2
        have HLE := Lib.hid hle
        clear HM HU hl hb hb2 hle hpl hql
        go_wp2_with fail
        refine HLS.out.mono ?_; rintro e w2 ⟨rfl, h2⟩
        have M2 := Lib.hid (ML.out.later h2)
        clear h2
        go_wp2_with fail
        go_end0
        exact ⟨⟨_, rfl⟩, l', M2.out, UL.out.stop HLE.out⟩
end
end Go.Proofs.Ythcfgchlaagfkaa
