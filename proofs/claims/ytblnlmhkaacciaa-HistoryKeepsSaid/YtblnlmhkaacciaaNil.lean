/-
  The walk of HistoryNil. No condition.
-/
import Derived.Test.YtblnlmhkaacciaaSays
namespace Go.Proofs.Ytblnlmhkaacciaa
open Go.ChangeShapes Go.WideShapes Go.ChangeAt Go.RowKit
set_option linter.unusedVariables false
set_option linter.unusedSimpArgs false

theorem two_seven (u : Nat) : (twoL [7] u).1 = 7 := by
  have e : u % 1 = 0 := by omega
  unfold twoL
  rw [if_neg (by decide)]
  simp only [List.length_cons, List.length_nil, Nat.zero_add, e]
  rfl
theorem own_cell {w : World} {B e s n c : Nat} {A : Option Addr} {xs : List Value} (h : w.ownsRow B e s (.slice A n c) n xs) (hp : 0 < n) : ∃ g, A = some ⟨g, 0, none⟩ ∧ B ≤ g ∧ n ≤ c ∧ ∃ cs, Blk w g e cs ∧ ∀ j, j < n * s → cs[j]? = xs[j]? := by
  rcases h.2 with ⟨hv, h0⟩ | ⟨g, cap, cur, hv, h1, h2, h3, h4, h5, h6⟩
  · injection hv with h1 h2 h3
    omega
  · injection hv with e1 e2 e3
    subst e1 e3
    refine ⟨g, rfl, h1, h3, cur, h2, fun j hj => ?_⟩
    have := World.ownsRow.cellAt h j hj
    rw [Blk.cell h2] at this
    exact this
set_option maxRecDepth 100000 in
set_option maxHeartbeats 3200000 in
theorem nil_walk (now : Int) (u : Nat) (w : World) (hu : u < 18446744073709551616) : Calls Try.prog 5 #[.int .i64 now, .int .u64 (u : Int)] w fun e w' => e = .returned (.bool true) ∧ Below w.heap.size w w' := by
  have hd : NoHist (w.alloc (.cells #[.bool false, .slice none 0 0, .int .i64 0] 51)) (.pointer (some ⟨w.heap.size, 0, none⟩)) := Or.inr ⟨_, rfl, Blk.new _ _ _⟩
  have hn : ∀ W, NoHist W (.pointer none) := fun W => Or.inl rfl
  have HN := Lib.hid hn
  have HT : Hid (∀ W, Tells W none []) := fun W => Or.inl ⟨hn W, rfl⟩
  have D0 := Lib.hid hd
  have B0 : Hid (Below w.heap.size w (w.alloc (.cells #[.bool false, .slice none 0 0, .int .i64 0] 51))) := (Below.refl _ _).alloc (Nat.le_refl _) _
  have HDT : Hid (∀ W, NoHist W (.pointer (some ⟨w.heap.size, 0, none⟩)) → Tells W (some ⟨w.heap.size, 0, none⟩) []) := fun W h => Or.inl ⟨h, rfl⟩
  clear hd hn
  go_enter Try.func5, Try.ntmps5
  go_wp2_with fail
  refine (newest_any none [] _ (HT.out _)).mono ?_; rintro e w1 ⟨nu1, fr1, un1, A1, k1, c1, rfl, hnu1, h1⟩
  have hz1 : nu1 = 0 := hnu1
  subst hz1
  clear hnu1
  have b1 := B0.out.trans (h1.mono B0.out.size)
  have D1 : Hid (NoHist (w1.alloc (.cells #[.int .i64 0, .int .i64 fr1, .int .i64 un1, .slice A1 k1 c1] 32)) (.pointer (some ⟨w.heap.size, 0, none⟩))) := (D0.out.later h1).later ((Below.refl _ _).alloc (Nat.le_refl _) _)
  have B1 : Hid (Below w.heap.size w (w1.alloc (.cells #[.int .i64 0, .int .i64 fr1, .int .i64 un1, .slice A1 k1 c1] 32))) := b1.alloc b1.size _
  clear h1 b1
  go_wp2_with fail
  refine (newest_any _ [] _ (HDT.out _ D1.out)).mono ?_; rintro e w2 ⟨nu2, fr2, un2, A2, k2, c2, rfl, hnu2, h2⟩
  have hz2 : nu2 = 0 := hnu2
  subst hz2
  clear hnu2
  have b2 := B1.out.trans (h2.mono B1.out.size)
  have D2 : Hid (NoHist (w2.alloc (.cells #[.int .i64 0, .int .i64 fr2, .int .i64 un2, .slice A2 k2 c2] 32)) (.pointer (some ⟨w.heap.size, 0, none⟩))) := (D1.out.later h2).later ((Below.refl _ _).alloc (Nat.le_refl _) _)
  have B2 : Hid (Below w.heap.size w (w2.alloc (.cells #[.int .i64 0, .int .i64 fr2, .int .i64 un2, .slice A2 k2 c2] 32))) := b2.alloc b2.size _
  clear h2 b2
  go_wp2_with fail
  refine (new_any _).mono ?_; rintro e w3 ⟨H, rfl, h3, hH, hb3⟩
  have hs3 : Hs w3 H w3.heap.size [] 0 := ⟨_, [], h3, rfl, by simp⟩
  obtain ⟨B, hB⟩ : ∃ B, w3.heap.size = B := ⟨_, rfl⟩
  rw [hB] at hs3
  have hal : Below w3.heap.size w3 (w3.alloc (.cells #[.int .i64 7] 3)) := (Below.refl _ _).alloc (Nat.le_refl _) _
  have D3 : Hid (NoHist (w3.alloc (.cells #[.int .i64 7] 3)) (.pointer (some ⟨w.heap.size, 0, none⟩))) := (D2.out.later hb3).later hal
  have B3 : Hid (Below w.heap.size w (w3.alloc (.cells #[.int .i64 7] 3))) := (B2.out.trans (hb3.mono B2.out.size)).trans (hal.mono (Nat.le_trans B2.out.size hb3.size))
  have HP := Lib.hid (push_hs (some ⟨w3.heap.size, 0, none⟩) 1 1 [7] 0 (hs3.later hal) (by decide) (nrow_one w3 7) (fun _ a ha => by cases ha; exact Or.inr ⟨_, Blk.new w3 3 _⟩) rfl (by omega) (by omega))
  have hHw : w.heap.size < H := by
    have := B2.out.size
    have h9 : (w2.alloc (.cells #[.int .i64 0, .int .i64 fr2, .int .i64 un2, .slice A2 k2 c2] 32)).heap.size ≤ H := hH
    simp at h9
    have h8 := D2.out
    rcases h8 with h8 | ⟨N, e, hk⟩
    · cases h8
    · have := hk.lt
      injection e with e
      injection e with e
      injection e with e
      simp at this
      omega
  have hHB : H < B := (hs3.bounds).1
  clear h3 hs3 hB hal hb3 hH
  go_wp2_with fail
  refine HP.out.mono ?_; rintro e w4 ⟨rfl, h4, c4⟩
  have D4 : Hid (NoHist w4 (.pointer (some ⟨w.heap.size, 0, none⟩))) := D3.out.imp id (fun ⟨N, e, hk⟩ => ⟨N, e, hk.kept c4 (by
    injection e with e
    injection e with e
    injection e with e
    rintro (e2 | e2) <;> omega)⟩)
  have hs4 : Hs w4 H B [(1, 0, -1, [7])] 1 := h4
  have HS4 := Lib.hid hs4
  have B4 : Hid (Below w.heap.size w w4) := mine_below B3.out c4 (Nat.le_of_lt hHw) hHB
  clear h4 c4 hs4 HP
  go_wp2_with fail
  refine (all_any _ _ w4 HS4.out.tells).mono ?_; rintro e w5 ⟨v5, qs, rfl, h5, s5, l5, hb5⟩
  obtain ⟨q, rfl⟩ : ∃ q, qs = [q] := by
    have := congrArg List.length s5
    simp [sayV] at this
    exact List.length_eq_one_iff.1 this
  obtain ⟨qn, qf, qu, qA, qc, qt⟩ := q
  have hqt : qt = [7] := by
    have := List.cons.inj s5
    have h6 := this.1
    injection h6 with _ h6
    injection h6 with _ h6
    injection h6
  subst hqt
  obtain ⟨A5, c5, rfl⟩ := own_form h5 (by decide) h5.1
  obtain ⟨g5, rfl, hg5, hc5, cs5, K5, hcs5⟩ := own_cell h5 (by simp)
  have x3 : w5.cell? ⟨g5, 3, none⟩ = some (.slice qA 1 qc) := by
    rw [K5.cell, hcs5 3 (by simp)]; rfl
  have hl5 := (l5 _ (List.mem_singleton.2 rfl)).1
  unfold Ver.sl at hl5
  have hl6 : w5.ownsRow w4.heap.size 3 1 (.slice qA 1 qc) 1 (intsV [7]) := hl5
  obtain ⟨t5, rfl, ht5, hqc, ts5, T5, hts5⟩ := own_cell hl6 (by omega)
  have y0 : w5.cell? ⟨t5, 0, none⟩ = some (.int .i64 7) := by
    rw [T5.cell, hts5 0 (by omega)]; rfl
  have yf := T5.free 0
  have b6 : Below w4.heap.size w4 (w5.setCell ⟨t5, 0, none⟩ (.int .i64 8)) := hb5.setCell (p := ⟨t5, 0, none⟩) ht5 _
  have D6 := Lib.hid (D4.out.later b6)
  have HS6 := Lib.hid (HS4.out.later b6)
  have B6 := Lib.hid (B4.out.trans (b6.mono B4.out.size))
  clear h5 s5 l5 hb5 K5 hcs5 hl5 hl6 T5 hts5 b6 ht5 hg5
  go_wp2_with fail
  refine (pairs_any _ u _ _ HS6.out.tells hu).mono ?_; rintro e w7 ⟨v7, rfl, h7, hb7⟩
  obtain ⟨A7, c7, rfl⟩ := own_form h7 (by decide) h7.1
  obtain ⟨g7, rfl, hg7, hc7, cs7, K7, hcs7⟩ := own_cell h7 (by simp)
  have z7 : cs7[0]? = some (.int .i64 7) := by
    rw [hcs7 0 (by simp)]
    have := (flat2_at (pairsL [(1, 0, -1, [7])] u) 0 (by simp [pairsL])).1
    rw [Nat.zero_mul] at this
    rw [this]
    show some (Value.int .i64 (twoL [7] u).1) = _
    rw [two_seven]
  have D7 := Lib.hid (D6.out.later hb7)
  have B7 := Lib.hid (B6.out.trans (hb7.mono B6.out.size))
  have K7H := Lib.hid K7
  have Z7 := Lib.hid z7
  clear h7 hb7 hcs7 K7 z7 HS6 D6 hc7
  go_wp2_with fail
  refine (push_none _ _ now _ (HN.out _)).mono ?_; rintro e w' ⟨rfl, rfl⟩
  go_wp2_with fail
  refine (push_none _ _ now _ D7.out).mono ?_; rintro e w' ⟨rfl, rfl⟩
  go_wp2_with fail
  refine (free_none _ now _ (HN.out _)).mono ?_; rintro e w' ⟨rfl, rfl⟩
  go_wp2_with fail
  refine (free_none _ now _ D7.out).mono ?_; rintro e w' ⟨rfl, rfl⟩
  go_wp2_with fail
  refine (all_any none [] _ (HT.out _)).mono ?_; rintro e w8 ⟨v8, qs8, rfl, h8, s8, _, hb8⟩
  have hq8 : qs8 = [] := by
    have := congrArg List.length s8
    simp [sayV] at this
    exact this
  subst hq8
  obtain ⟨A8, c8, rfl⟩ := own_form h8 (by decide) h8.1
  have D8 := Lib.hid (D7.out.later hb8)
  have B8 := Lib.hid (B7.out.trans (hb8.mono B7.out.size))
  have K8 := Lib.hid (K7H.out.below hb8 K7H.out.lt)
  clear h8 s8 hb8
  go_wp2_with fail
  refine (all_any _ [] _ (HDT.out _ D8.out)).mono ?_; rintro e w9 ⟨v9, qs9, rfl, h9, s9, _, hb9⟩
  have hq9 : qs9 = [] := by
    have := congrArg List.length s9
    simp [sayV] at this
    exact this
  subst hq9
  obtain ⟨A9, c9, rfl⟩ := own_form h9 (by decide) h9.1
  have B9 := Lib.hid (B8.out.trans (hb9.mono B8.out.size))
  have K9 := Lib.hid (K8.out.below hb9 K8.out.lt)
  clear h9 s9 hb9
  go_wp2_with fail
  refine (pairs_any none u [] _ (HT.out _) hu).mono ?_; rintro e w10 ⟨v10, rfl, h10, hb10⟩
  obtain ⟨A10, c10, rfl⟩ := own_form h10 (by decide) h10.1
  have B10 := Lib.hid (B9.out.trans (hb10.mono B9.out.size))
  have K10 := K9.out.below hb10 K9.out.lt
  have x7 : w10.cell? ⟨g7, 0, none⟩ = some (.int .i64 7) := by rw [K10.cell]; exact Z7.out
  clear h10 hb10 K10
  go_wp2_with fail
  refine (lives_any _).mono ?_; rintro e w11 ⟨rfl, hb11⟩
  have B11 := Lib.hid (B10.out.trans (hb11.mono B10.out.size))
  clear hb11
  go_wp2_with fail
  go_ret
  exact ⟨rfl, B11.out⟩
end Go.Proofs.Ytblnlmhkaacciaa
