/-
  The walk of Double. No condition beyond bytes of a length that lets them be copied.
-/
import Derived.Test.YtiooikjaalphiaaAlls
namespace Go.Proofs.Ytiooikjaalphiaa
open Go.ChangeShapes Go.WideShapes Go.ChangeAt Go.RowKit
set_option linter.unusedVariables false
set_option linter.unusedSimpArgs false

theorem double_zero {N B : Nat} {v : Value} {lost : Int} {w : World} (i : Int) (h : NetIs w N B v [] lost) : Calls Try.prog 13 #[.pointer (some ⟨N, 0, none⟩), .int .i64 i] w fun e w' => e = .returned (.bool false) ∧ w = w' := by
  have HL := Lib.hid (len_net h)
  clear h
  go_enter Try.func13, Try.ntmps13
  go_wp2_with fail
  refine HL.out.mono ?_; rintro e w' ⟨rfl, rfl⟩
  go_wp2
  go_ret
  exact ⟨rfl, rfl⟩
theorem take_zero {N B : Nat} {v : Value} {lost : Int} {w : World} (i : Int) (h : NetIs w N B v [] lost) : Calls Try.prog 11 #[.pointer (some ⟨N, 0, none⟩), .int .i64 i] w fun e w' => e = .returned (.tuple #[.agg #[.slice none 0 0, .int .i64 0], .bool false]) ∧ Below w.heap.size w w' := by
  have HL := Lib.hid (len_net (h.other ((Below.refl w.heap.size w).alloc (Nat.le_refl _) (.cells #[.slice none 0 0, .int .i64 0] 41))))
  clear h
  go_enter Try.func11, Try.ntmps11
  go_wp2_with fail
  refine HL.out.mono ?_; rintro e w' ⟨rfl, rfl⟩
  go_wp2_with fail
  go_returns
  refine ⟨by simp [go_sem], ?_⟩
  repeat' (first | (with_reducible exact Below.refl _ _) | (with_reducible refine Below.drew ?_) | (refine Below.alloc ?_ (by simp) _) | (refine Below.setCell ?_ (by simp) _))
/-- What Put makes of a net. -/
def putL (ps : List (List Int × Int)) (p : List Int × Int) : List (List Int × Int) := if 120 ≤ ps.length then ps else ps ++ [p]
def putN (n : Nat) (lost : Int) : Int := if 120 ≤ n then lost + 1 else lost
theorem put_net {N B : Nat} {v : Value} {ps : List Pk} {lost : Int} {w : World} (A : Option Addr) (n c : Nat) (bs : List Int) (b : Int) (h : NetIs w N B v ps lost) (hm : ps.length ≤ 1000) (hl : 0 ≤ lost ∧ lost ≤ 1000000) (hr : BRow w A n bs) (hn : n ≤ 140737488355328) (hc : n ≤ c) :
    Calls Try.prog 9 #[.pointer (some ⟨N, 0, none⟩), .slice A n c, .int .i64 b] w fun e w' => ∃ v' qs, e = .returned (.bool (decide (ps.length < 120))) ∧ NetIs w' N B v' qs (putN ps.length lost) ∧ sayL qs = putL (sayL ps) (bs, b) ∧ Chg (OwnN N v) w w' := by
  by_cases hf : 120 ≤ ps.length
  · refine (put_full _ _ h hf hm hl).mono ?_
    rintro e w' ⟨rfl, h1, h2⟩
    have hd : decide (ps.length < 120) = false := by simp; omega
    exact ⟨v, ps, by rw [hd], by unfold putN; rw [if_pos hf]; exact h1, by unfold putL; rw [if_pos (by simpa [sayL] using hf)], h2⟩
  · refine (put_any A n c bs b h (by omega) hr hn hc).mono ?_
    rintro e w' ⟨v', p, rfl, h1, h2, h3, h4⟩
    have hd : decide (ps.length < 120) = true := by simp; omega
    refine ⟨v', ps ++ [p], by rw [hd], by unfold putN; rw [if_neg hf]; exact h1, ?_, h4⟩
    unfold putL
    rw [if_neg (by simpa [sayL] using hf)]
    simp [sayL, Pk.says, h2, h3]
set_option maxHeartbeats 1600000 in
theorem double_any {N B : Nat} {v : Value} {ps : List Pk} {lost : Int} {w : World} (i : Int) (k : Nat) (h : NetIs w N B v ps lost) (hk : k < ps.length) (hn : ps.length ≤ 1000) (hi : -9223372036854775808 ≤ i ∧ i ≤ 9223372036854775807) (hki : i % (ps.length : Nat) = k) (hl : 0 ≤ lost ∧ lost ≤ 1000000) (hb : ∀ p ∈ ps, p.bs.length ≤ 140737488355328) :
    Calls Try.prog 13 #[.pointer (some ⟨N, 0, none⟩), .int .i64 i] w fun e w' => ∃ v' qs, e = .returned (.bool (decide (ps.length < 120))) ∧ NetIs w' N B v' qs (putN ps.length lost) ∧ sayL qs = putL (sayL ps) (ps[k].says) ∧ Chg (OwnN N v) w w' := by
  obtain ⟨g, c, rfl, hc1, hg1, hg2, hcr, hc2⟩ := h.some_ (by omega)
  obtain ⟨L, hL⟩ : ∃ L, ps.length = L := ⟨_, rfl⟩
  obtain ⟨x0, x1⟩ := row_cells hcr k hk
  have hpm := List.getElem_mem hk
  have HLIE := Lib.hid (h.2.2.1 ps[k] hpm).1
  have HBL := Lib.hid (hb ps[k] hpm)
  have HN := Lib.hid h
  have HLEN := Lib.hid (len_net h)
  have HLEN2 : Hid (∀ W, Below w.heap.size w W → Calls Try.prog 17 #[.pointer (some ⟨N, 0, none⟩)] W fun e w' => e = .returned (.int .i64 (L : Int)) ∧ W = w') := fun W hW => by have := len_net (h.other hW); rw [hL] at this; exact this
  have HROUND : Hid (∀ W, Calls Try.prog 24 #[.int .i64 i, .int .i64 L] W fun e w' => e = .returned (.int .i64 (k : Int)) ∧ W = w') := fun W => by have := round_any i L W hi (by omega) (by omega); rw [hL] at hki; rw [hki] at this; exact this
  have c1 : w.cell? ⟨N, 1, none⟩ = some (.slice (some ⟨g, 0, none⟩) L c) := by rw [← hL]; exact h.1.cell 1
  have HPUT : Hid (∀ W, Below w.heap.size w W → Calls Try.prog 9 #[.pointer (some ⟨N, 0, none⟩), .slice (some ⟨ps[k].g, 0, none⟩) ps[k].bs.length ps[k].bs.length, .int .i64 ps[k].born] W fun e w' => ∃ v' qs, e = .returned (.bool (decide (ps.length < 120))) ∧ NetIs w' N B v' qs (putN ps.length lost) ∧ sayL qs = putL (sayL ps) (ps[k].says) ∧ Chg (OwnN N (.slice (some ⟨g, 0, none⟩) ps.length c)) W w') := fun W hW =>
    put_net _ _ _ ps[k].bs ps[k].born (h.other hW) hn hl (HLIE.out.later hW).row HBL.out (Nat.le_refl _)
  have hNlt := h.1.lt
  rw [hL] at HLEN hk hn HPUT ⊢
  generalize ps[k] = p at *
  have t1 : ((L : Int) == 0) = false := by simp; omega
  have b1 : (0 : Int) ≤ (k : Int) := by omega
  have b2 : (k : Int) < (L : Int) := by omega
  have b3 : k < L := hk
  clear h hcr hc1 hki hL hpm hb
  go_enter Try.func13, Try.ntmps13
  go_wp2_with fail
  refine HLEN.out.mono ?_; rintro e w' ⟨rfl, rfl⟩
  go_upto_region 3 with fail
  go_cut [5] (fun s5 wx => ∃ t : Nat, s5 = .pointer (some ⟨t, 0, none⟩) ∧ Hid (Blk wx t 41 #[.slice (some ⟨p.g, 0, none⟩) p.bs.length p.bs.length, .int .i64 p.born] ∧ Below w.heap.size w wx))
  case first =>
    go_region_held3 (fun W => W.cell? ⟨N, 1, none⟩ = some (.slice (some ⟨g, 0, none⟩) L c) ∧ W.cell? ⟨g, k * 2, none⟩ = some (.slice (some ⟨p.g, 0, none⟩) p.bs.length p.bs.length) ∧ W.cell? ⟨g, k * 2 + 1, none⟩ = some (.int .i64 p.born)) (go_keep)
      (first
        | (go_at_call 17; refine Calls.mono (HLEN2.out _ (by first | exact (Below.refl _ _).drew | exact ((Below.refl _ w).alloc (Nat.le_refl _) _).drew)) ?_; rintro e w' ⟨rfl, rfl⟩)
        | (go_at_call 24; refine Calls.mono (HROUND.out _) ?_; rintro e w' ⟨rfl, rfl⟩))
    all_goals
      go_wp2_with fail
      go_meet
      exact ⟨_, rfl, Blk.new w 41 _, ((Below.refl _ w).alloc (Nat.le_refl _) _).drew⟩
  case rest =>
    obtain ⟨t, rfl, HT⟩ := hcut
    have y0 : wc.cell? ⟨t, 0, none⟩ = some (.slice (some ⟨p.g, 0, none⟩) p.bs.length p.bs.length) := (HT.out.1.cell 0).trans rfl
    have y1 : wc.cell? ⟨t, 1, none⟩ = some (.int .i64 p.born) := (HT.out.1.cell 1).trans rfl
    go_wp2_with fail
    refine (HPUT.out wc HT.out.2).mono ?_; rintro e w2 ⟨v2, qs, rfl, h3, h4, h5⟩
    have H3 := Lib.hid h3
    have H4 := Lib.hid h4
    have H5 := Lib.hid h5
    clear h3 h4 h5
    go_wp2
    go_ret
    exact ⟨v2, qs, rfl, H3.out, H4.out, (Chg.of_below HT.out.2).trans H5.out (fun _ _ e => e)⟩
end Go.Proofs.Ytiooikjaalphiaa
