/-
  The walks that turn a list: first, cut. No condition.
-/
import Derived.Test.YthaaonafpbodmaaState
namespace Go.Proofs.Ythaaonafpbodmaa
open Go.ChangeShapes Go.WideShapes Go.ChangeAt Go.RowKit
set_option linter.unusedVariables false
set_option linter.unusedSimpArgs false

theorem nodup_len : ∀ (n : Nat) (l : List Nat), l.Nodup → (∀ i ∈ l, i < n) → l.length ≤ n
  | 0, l, _, h => by
    cases l with
    | nil => simp
    | cons a l => have := h a (by simp); omega
  | n + 1, l, hd, h => by
    have r := nodup_len n (l.erase n) (hd.erase n) (fun i hi => by
      have h1 := h i (List.mem_of_mem_erase hi)
      have h2 : i ≠ n := fun e => by rw [e] at hi; exact (List.Nodup.not_mem_erase hd) hi
      omega)
    rw [List.length_erase] at r
    split at r <;> omega
theorem first_any (L R D U n i : Nat) (up dn : Nat → Int) (l : List Nat) (w : World) (h : RS w L R D U n up dn l.length) (hr : Ring n up dn l) (hn : n ≤ 256) (hi : i < n) (hni : i ∉ l) :
    Calls Try.prog 18 #[.pointer (some ⟨R, 0, none⟩), .int .i64 i] w fun e w' => e = .returned (.tuple #[]) ∧ (∃ up' dn', RS w' L R D U n up' dn' ((i :: l).length : Nat) ∧ Ring n up' dn' (i :: l)) ∧ Chg (fun k => k = R ∨ k = D ∨ k = U) w w' := by
  have c1 : w.cell? ⟨R, 1, none⟩ = some (.slice (some ⟨U, 0, none⟩) (n + 1) (n + 1)) := h.r.cell 1
  have hx := hr.links.up_hd
  have cu := h.u.cell (Nat.le_refl n)
  rw [hx] at cu
  have HX := Lib.hid hx
  have hlen := nodup_len n l hr.nodup hr.lt
  obtain ⟨b, hb⟩ : ∃ b, l.headD n = b := ⟨_, rfl⟩
  rw [hb] at cu HX
  have HB := Lib.hid hb
  have HH := Lib.hid h
  have HR := Lib.hid hr
  clear h hr hx hb
  have hbn : b ≤ n := by
    have h1 := HB.out
    rcases headD_mem l n with e | e
    · omega
    · have := HR.out.lt _ e; omega
  have HF := Lib.hid (HR.out.first hi hni)
  unfold hd at HF
  rw [HB.out] at HF
  have b1 : (0 : Int) ≤ (n : Int) := by omega
  have b2 : (n : Int) < (n : Int) + 1 := by omega
  have b3 : (n : Int) < ((n + 1 : Nat) : Int) := by omega
  go_enter Try.func18, Try.ntmps18
  go_wp2_with fail
  go_region_held3 (fun W => W.cell? ⟨R, 1, none⟩ = some (.slice (some ⟨U, 0, none⟩) (n + 1) (n + 1)) ∧ W.cell? ⟨U, n, none⟩ = some (.int .i64 b)) (go_keep)
    (first
      | (go_at_call 20; refine Calls.mono (own_any R n D U _ w.drew (Blk.draw HH.out.r) hn) ?_; rintro e w' ⟨rfl, rfl⟩))
  go_wp2_with fail
  refine Calls.mono (own_any R n D U _ w.drew (Blk.draw HH.out.r) hn) ?_; rintro e w' ⟨rfl, rfl⟩
  go_wp2_with fail
  refine Calls.mono (join_any L R D U n n i up dn l.length w.drew ⟨HH.out.l, HH.out.r, HH.out.d, HH.out.u, HH.out.ne⟩ hn (Nat.le_refl _) (by omega)) ?_; rintro e w1 ⟨rfl, h1⟩
  have H1 := Lib.hid h1
  clear h1
  go_wp2_with fail
  refine (join_any L R D U n i b _ _ _ _ H1.out.1 hn (by omega) hbn).mono ?_; rintro e w2 ⟨rfl, h2⟩
  have H2 := Lib.hid h2
  have c2 : w2.cell? ⟨R, 2, none⟩ = some (.int .i64 l.length) := h2.1.r.cell 2
  have f2 := h2.1.r.free 2
  clear h2
  go_wp2_with fail
  go_end0
  refine ⟨rfl, ⟨_, _, ?_, HF.out⟩, ?_⟩
  · have := H2.out.1.setM ((i :: l).length : Nat)
    have hw : wrap64 ((l.length : Int) + 1) = (l.length : Int) + 1 := IntWalk.wrap64_in _ (by omega)
    have e : ((l.length + 1 : Nat) : Int) = (l.length : Int) + 1 := by omega
    simp only [List.length_cons, e] at this ⊢
    exact this
  · have k1 : Chg (fun k => k = R ∨ k = D ∨ k = U) w w1 := (Chg.draw (Chg.refl _ _)).trans H1.out.2 (fun _ _ h => Or.inr h)
    have k2 := k1.trans H2.out.2 (fun _ _ h => Or.inr h)
    exact Chg.put k2 (by exact Or.inl (Or.inl rfl)) _

theorem cut_any (L R D U n i : Nat) (up dn : Nat → Int) (l : List Nat) (w : World) (h : RS w L R D U n up dn l.length) (hr : Ring n up dn l) (hn : n ≤ 256) (hi : i ∈ l) :
    Calls Try.prog 19 #[.pointer (some ⟨R, 0, none⟩), .int .i64 i] w fun e w' => e = .returned (.tuple #[]) ∧ (∃ up' dn', RS w' L R D U n up' dn' ((less l i).length : Nat) ∧ Ring n up' dn' (less l i)) ∧ Chg (fun k => k = R ∨ k = D ∨ k = U) w w' := by
  have hin := hr.lt i hi
  obtain ⟨a, b, ha, hb, han, hbn, hai, hbi, hF⟩ := hr.cut hi
  have c0 : w.cell? ⟨R, 0, none⟩ = some (.slice (some ⟨D, 0, none⟩) (n + 1) (n + 1)) := h.r.cell 0
  have c1 : w.cell? ⟨R, 1, none⟩ = some (.slice (some ⟨U, 0, none⟩) (n + 1) (n + 1)) := h.r.cell 1
  have cu := h.u.cell (Nat.le_of_lt hin)
  have cd := h.d.cell (Nat.le_of_lt hin)
  have hu1 : set1 up a b i = b := (set1_other _ _ (Ne.symm hai)).trans hb
  have hd1 : set1 dn b a i = a := (set1_other _ _ (Ne.symm hbi)).trans ha
  rw [hb] at cu
  rw [ha] at cd
  have HF := Lib.hid hF
  have HH := Lib.hid h
  have HU1 := Lib.hid hu1
  have HD1 := Lib.hid hd1
  have hlen := nodup_len n l hr.nodup hr.lt
  have hless := hr.less_len hi
  have hne := h.ne
  have hne2 := Ne.symm h.ne
  have hw64 : wrap64 ((l.length : Int) - 1) = (l.length : Int) - 1 := IntWalk.wrap64_in _ (by omega)
  clear h hr ha hb hF hu1 hd1
  have b1 : (0 : Int) ≤ (i : Int) := by omega
  have b2 : (i : Int) < (n : Int) + 1 := by omega
  have b3 : (i : Int) < ((n + 1 : Nat) : Int) := by omega
  go_enter Try.func19, Try.ntmps19
  go_upto_region 0 with fail
  go_region_held3 (fun W => W.cell? ⟨R, 0, none⟩ = some (.slice (some ⟨D, 0, none⟩) (n + 1) (n + 1)) ∧ W.cell? ⟨R, 1, none⟩ = some (.slice (some ⟨U, 0, none⟩) (n + 1) (n + 1)) ∧ W.cell? ⟨U, i, none⟩ = some (.int .i64 b) ∧ W.cell? ⟨D, i, none⟩ = some (.int .i64 a)) (first | exact ⟨d0, d1, d2, d3⟩ | exact ⟨c0, c1, cu, cd⟩)
    (first
      | (go_at_call 16; refine Calls.mono (join_any L R D U n a b up dn l.length w.drew ⟨HH.out.l, HH.out.r, HH.out.d, HH.out.u, HH.out.ne⟩ hn han hbn) ?_; rintro e w1 ⟨rfl, h1⟩; have d0 : w1.cell? ⟨R, 0, none⟩ = some (.slice (some ⟨D, 0, none⟩) (n + 1) (n + 1)) := h1.1.r.cell 0; have d1 : w1.cell? ⟨R, 1, none⟩ = some (.slice (some ⟨U, 0, none⟩) (n + 1) (n + 1)) := h1.1.r.cell 1; have d2 : w1.cell? ⟨U, i, none⟩ = some (.int .i64 b) := (h1.1.u.cell (Nat.le_of_lt hin)).trans (by rw [HU1.out]); have d3 : w1.cell? ⟨D, i, none⟩ = some (.int .i64 a) := (h1.1.d.cell (Nat.le_of_lt hin)).trans (by rw [HD1.out]); have f2 := h1.1.u.free i; have f3 := h1.1.d.free i; have H1 := Lib.hid h1; clear h1))
  have H3 := Lib.hid ((H1.out.1.setD i (-1)).setU i (-1))
  have e2 : ((w1.setCell ⟨D, i, none⟩ (.int .i64 (-1))).setCell ⟨U, i, none⟩ (.int .i64 (-1))).cell? ⟨R, 2, none⟩ = some (.int .i64 l.length) := H3.out.r.cell 2
  have g2 : ((w1.setCell ⟨D, i, none⟩ (.int .i64 (-1))).setCell ⟨U, i, none⟩ (.int .i64 (-1))).frozen? ⟨R, 2, none⟩ = false := H3.out.r.free 2
  go_wp2_with fail
  go_region
  go_wp2
  go_end0
  refine ⟨rfl, ⟨_, _, ?_, HF.out⟩, ?_⟩
  · have := H3.out.setM ((less l i).length : Nat)
    have e : (((less l i).length : Nat) : Int) = (l.length : Int) - 1 := by omega
    simp only [e] at this ⊢
    exact ⟨this.l, this.r, this.d, this.u, this.ne⟩
  · have k1 : Chg (fun k => k = R ∨ k = D ∨ k = U) w w1 := (Chg.draw (Chg.refl _ _)).trans H1.out.2 (fun _ _ h => Or.inr h)
    exact Chg.put (Chg.draw (Chg.put (Chg.put k1 (by exact Or.inl (Or.inr (Or.inl rfl))) _) (by exact Or.inl (Or.inr (Or.inr rfl))) _)) (by exact Or.inl (Or.inl rfl)) _
end Go.Proofs.Ythaaonafpbodmaa
