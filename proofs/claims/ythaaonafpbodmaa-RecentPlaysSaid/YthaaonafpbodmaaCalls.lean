/-
  The walks of what callers call: Has, Drop, Touch, Oldest. No condition.
-/
import Derived.Test.YthaaonafpbodmaaTurns
namespace Go.Proofs.Ythaaonafpbodmaa
open Go.ChangeShapes Go.WideShapes Go.ChangeAt Go.RowKit
set_option linter.unusedVariables false
set_option linter.unusedSimpArgs false

/-- The list at L has the numbers l, under n. -/
def LS (w : World) (L R D U n : Nat) (l : List Nat) : Prop := ∃ up dn, RS w L R D U n up dn l.length ∧ Ring n up dn l
def Own (R D U : Nat) (k : Nat) : Prop := k = R ∨ k = D ∨ k = U
def there (l : List Nat) (x : Int) : Bool := decide (0 ≤ x ∧ x.toNat ∈ l)
theorem has_any (L R D U n : Nat) (l : List Nat) (x : Int) (w : World) (h : LS w L R D U n l) (hn : n ≤ 256) : Calls Try.prog 15 #[.pointer (some ⟨L, 0, none⟩), .int .i64 x] w fun e w' => e = .returned (.bool (there l x)) ∧ w = w' := by
  obtain ⟨up, dn, h, hr⟩ := h
  have c0 : w.cell? ⟨L, 0, none⟩ = some (.pointer (some ⟨R, 0, none⟩)) := h.l.cell 0
  have HH := Lib.hid h
  have HR := Lib.hid hr
  clear h hr
  by_cases hx : 0 ≤ x ∧ x < n
  · obtain ⟨i, rfl⟩ := Int.eq_ofNat_of_zero_le hx.1
    have hi : i < n := by omega
    have e1 : Hid (decide (0 ≤ (i : Int) ∧ (i : Int) < (n : Int)) = true) := by unfold Hid; simp [hx]
    have e2 : Hid (decide (0 ≤ up i) = there l i) := by unfold Hid there; simp [HR.out.up_in hi]
    go_enter Try.func15, Try.ntmps15
    go_wp2_with fail
    refine (may_any L R D U n i up dn _ _ HH.out hn).mono ?_; rintro e w' ⟨rfl, rfl⟩
    rw [e1.out]
    go_wp2_with fail
    refine (in_any L R D U n i up dn _ _ HH.out hn (by omega)).mono ?_; rintro e w' ⟨rfl, rfl⟩
    rw [e2.out]
    go_wp2
    go_ret
    exact ⟨ret_bool rfl, rfl⟩
  · have e1 : Hid (decide (0 ≤ x ∧ x < (n : Int)) = false) := by unfold Hid; simpa using hx
    have e2 : Hid (there l x = false) := by
      unfold Hid there
      simp only [decide_eq_false_iff_not, not_and]
      intro h0 hm
      have := HR.out.lt _ hm
      exact hx ⟨h0, by omega⟩
    clear hx
    go_enter Try.func15, Try.ntmps15
    go_wp2_with fail
    refine (may_any L R D U n x up dn _ _ HH.out hn).mono ?_; rintro e w' ⟨rfl, rfl⟩
    rw [e1.out]
    go_wp2
    go_ret
    exact ⟨ret_bool (by rw [e2.out]), rfl⟩

theorem drop_any (L R D U n : Nat) (l : List Nat) (x : Int) (w : World) (h : LS w L R D U n l) (hn : n ≤ 256) : Calls Try.prog 9 #[.pointer (some ⟨L, 0, none⟩), .int .i64 x] w fun e w' => e = .returned (.bool (there l x)) ∧ LS w' L R D U n (if there l x = true then less l x.toNat else l) ∧ Chg (Own R D U) w w' := by
  have HL := Lib.hid h
  obtain ⟨up, dn, h, hr⟩ := h
  have c0 : w.cell? ⟨L, 0, none⟩ = some (.pointer (some ⟨R, 0, none⟩)) := h.l.cell 0
  have HH := Lib.hid h
  have HR := Lib.hid hr
  clear h hr
  by_cases ht : there l x = true
  · have HT := Lib.hid ht
    have h2 : 0 ≤ x ∧ x.toNat ∈ l := by simpa [there] using ht
    obtain ⟨i, rfl⟩ := Int.eq_ofNat_of_zero_le h2.1
    have him := Lib.hid h2.2
    clear ht h2
    go_enter Try.func9, Try.ntmps9
    go_wp2_with fail
    refine (has_any L R D U n l i _ HL.out hn).mono ?_; rintro e w' ⟨rfl, rfl⟩
    rw [HT.out]
    go_wp2_with fail
    refine (cut_any L R D U n i up dn l _ HH.out HR.out hn him.out).mono ?_; rintro e w1 ⟨rfl, h1⟩
    have H1 := Lib.hid h1
    clear h1
    go_wp2
    go_ret
    exact ⟨ret_bool rfl, by first | exact H1.out.1 | (rw [if_pos rfl]; exact H1.out.1) | (simpa [HT.out] using H1.out.1), H1.out.2⟩
  · have ht : there l x = false := by simpa using ht
    have HT := Lib.hid ht
    clear ht
    go_enter Try.func9, Try.ntmps9
    go_wp2_with fail
    refine (has_any L R D U n l x _ HL.out hn).mono ?_; rintro e w' ⟨rfl, rfl⟩
    rw [HT.out]
    go_wp2
    go_ret
    exact ⟨ret_bool rfl, by first | exact HL.out | (rw [if_neg (by decide)]; exact HL.out) | (simpa [HT.out] using HL.out), Chg.refl _ _⟩
theorem less_off {l : List Nat} {i : Nat} : i ∉ less l i := by simp [less]
theorem less_same {l : List Nat} {i : Nat} (h : i ∉ l) : less l i = l := by
  unfold less
  exact List.filter_eq_self.2 (fun j hj => by
    have hji : j ≠ i := fun e => h (e ▸ hj)
    simpa using hji)
theorem touch_any (L R D U n : Nat) (l : List Nat) (x : Int) (w : World) (h : LS w L R D U n l) (hn : n ≤ 256) : Calls Try.prog 7 #[.pointer (some ⟨L, 0, none⟩), .int .i64 x] w fun e w' => e = .returned (.bool (decide (0 ≤ x ∧ x < n))) ∧ LS w' L R D U n (if 0 ≤ x ∧ x < n then x.toNat :: less l x.toNat else l) ∧ Chg (Own R D U) w w' := by
  have HL := Lib.hid h
  obtain ⟨up, dn, h, hr⟩ := h
  have c0 : w.cell? ⟨L, 0, none⟩ = some (.pointer (some ⟨R, 0, none⟩)) := h.l.cell 0
  have HH := Lib.hid h
  clear h hr
  by_cases hx : 0 ≤ x ∧ x < n
  · obtain ⟨i, rfl⟩ := Int.eq_ofNat_of_zero_le hx.1
    have hi : i < n := by omega
    have e1 : Hid (decide (0 ≤ (i : Int) ∧ (i : Int) < (n : Int)) = true) := by unfold Hid; simp [hx]
    have e2 : Hid ((if there l (i : Int) = true then less l i else l) = less l i) := by
      unfold Hid
      split
      · rfl
      · rename_i hh
        exact (less_same (by simpa [there] using hh)).symm
    have HX := Lib.hid hx
    clear hx
    go_enter Try.func7, Try.ntmps7
    go_wp2_with fail
    refine (may_any L R D U n i up dn _ _ HH.out hn).mono ?_; rintro e w' ⟨rfl, rfl⟩
    rw [e1.out]
    go_wp2_with fail
    refine (drop_any L R D U n l i _ HL.out hn).mono ?_; rintro e w1 ⟨rfl, h1, hc⟩
    rw [Int.toNat_natCast, e2.out] at h1
    obtain ⟨up1, dn1, g, gr⟩ := h1
    have c1 : w1.cell? ⟨L, 0, none⟩ = some (.pointer (some ⟨R, 0, none⟩)) := g.l.cell 0
    have HG := Lib.hid g
    have HGR := Lib.hid gr
    have HC := Lib.hid hc
    clear g gr hc
    go_wp2_with fail
    refine (first_any L R D U n i up1 dn1 (less l i) _ HG.out HGR.out hn hi less_off).mono ?_; rintro e w2 ⟨rfl, h2⟩
    have H2 := Lib.hid h2
    clear h2
    go_wp2
    go_ret
    exact ⟨ret_bool (by first | rfl | (rw [e1.out]) | simp [HX.out]), by first | exact H2.out.1 | (rw [if_pos HX.out, Int.toNat_natCast]; exact H2.out.1), HC.out.trans H2.out.2 (fun _ _ h => h)⟩
  · have e1 : Hid (decide (0 ≤ x ∧ x < (n : Int)) = false) := by unfold Hid; simpa using hx
    have HX := Lib.hid hx
    clear hx
    go_enter Try.func7, Try.ntmps7
    go_wp2_with fail
    refine (may_any L R D U n x up dn _ _ HH.out hn).mono ?_; rintro e w' ⟨rfl, rfl⟩
    rw [e1.out]
    go_wp2
    go_ret
    exact ⟨ret_bool (by first | rfl | (rw [e1.out])), by first | exact HL.out | (rw [if_neg HX.out]; exact HL.out), Chg.refl _ _⟩

theorem len_ls (L R D U n : Nat) (l : List Nat) (w : World) (h : LS w L R D U n l) : Calls Try.prog 14 #[.pointer (some ⟨L, 0, none⟩)] w fun e w' => e = .returned (.int .i64 l.length) ∧ w = w' := by
  obtain ⟨up, dn, h, _⟩ := h
  exact len_any L R D U n up dn _ w h
theorem oldest_any (L R D U n : Nat) (l : List Nat) (w : World) (h : LS w L R D U n l) (hn : n ≤ 256) : Calls Try.prog 11 #[.pointer (some ⟨L, 0, none⟩)] w fun e w' => e = .returned (.tuple #[.int .i64 (l.getLastD 0 : Nat), .bool (decide (0 < l.length))]) ∧ Chg (Own R D U) w w' ∧ LS w' L R D U n l := by
  have HL := Lib.hid h
  obtain ⟨up, dn, h, hr⟩ := h
  by_cases h0 : l = []
  · subst h0
    have c2 : True := trivial
    go_enter Try.func11, Try.ntmps11
    go_wp2_with fail
    refine (len_ls L R D U n [] _ HL.out).mono ?_; rintro e w' ⟨rfl, rfl⟩
    go_wp2
    go_returns
    exact ⟨rfl, Chg.refl _ _, HL.out⟩
  · have c0 : w.cell? ⟨L, 0, none⟩ = some (.pointer (some ⟨R, 0, none⟩)) := h.l.cell 0
    have c1 : w.cell? ⟨R, 0, none⟩ = some (.slice (some ⟨D, 0, none⟩) (n + 1) (n + 1)) := h.r.cell 0
    have cd := h.d.cell (Nat.le_refl n)
    rw [hr.links.dn_lst] at cd
    have hd : l.getLastD n = l.getLastD 0 := by
      cases l with
      | nil => exact absurd rfl h0
      | cons a t => simp [List.getLast?_cons]
    rw [hd] at cd
    have hpos : 0 < l.length := List.length_pos_iff.2 h0
    obtain ⟨b, hb⟩ : ∃ b, l.getLastD 0 = b := ⟨_, rfl⟩
    rw [hb] at cd ⊢
    have HH := Lib.hid h
    have e9 : Hid (decide (0 < l.length) = true) := by unfold Hid; simpa using hpos
    have b1 : (0 : Int) ≤ (n : Int) := by omega
    have b2 : (n : Int) < (n : Int) + 1 := by omega
    have b3 : (n : Int) < ((n + 1 : Nat) : Int) := by omega
    clear h hr hd hb h0
    go_enter Try.func11, Try.ntmps11
    go_wp2_with fail
    refine (len_ls L R D U n l _ HL.out).mono ?_; rintro e w' ⟨rfl, rfl⟩
    go_wp2_with fail
    go_region_held3 (fun W => W.cell? ⟨L, 0, none⟩ = some (.pointer (some ⟨R, 0, none⟩)) ∧ W.cell? ⟨R, 0, none⟩ = some (.slice (some ⟨D, 0, none⟩) (n + 1) (n + 1)) ∧ W.cell? ⟨D, n, none⟩ = some (.int .i64 b)) (first | exact ⟨c0, c1, cd⟩)
      (first
        | (go_at_call 20; refine Calls.mono (own_any R n D U _ w.drew (Blk.draw HH.out.r) hn) ?_; rintro e w' ⟨rfl, rfl⟩))
    go_wp2
    go_returns
    refine ⟨by rw [e9.out]; rfl, Chg.draw (Chg.refl _ _), ?_⟩
    obtain ⟨up, dn, k, kr⟩ := HL.out
    exact ⟨up, dn, ⟨k.l, k.r, k.d, k.u, k.ne⟩, kr⟩
end Go.Proofs.Ythaaonafpbodmaa
