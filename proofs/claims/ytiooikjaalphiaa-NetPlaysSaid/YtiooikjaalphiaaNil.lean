/-
  The walks of lives and NetNil. No condition.
-/
import Derived.Test.YtiooikjaalphiaaLives
namespace Go.Proofs.Ytiooikjaalphiaa
open Go.ChangeShapes Go.WideShapes Go.ChangeAt Go.RowKit
set_option linter.unusedVariables false
set_option linter.unusedSimpArgs false

theorem brow_one (w : World) (z : Int) : BRow (w.alloc (.cells #[.int .u8 z] 5)) (some ⟨w.heap.size, 0, none⟩) 1 [z] :=
  ⟨rfl, fun _ => ⟨w.heap.size, 0, rfl, by simp, fun i hi => by
    obtain rfl : i = 0 := by omega
    exact ((Blk.new w 5 #[.int .u8 z]).cell 0).trans rfl⟩⟩
set_option maxHeartbeats 1600000 in
theorem lives_any (w : World) : Calls Try.prog 7 #[] w fun e w' => e = .returned (.bool true) ∧ Below w.heap.size w w' := by
  go_enter Try.func7, Try.ntmps7
  go_wp2_with fail
  refine (new_any _).mono ?_; rintro e w1 ⟨N, rfl, h1, hN, hb1⟩
  obtain ⟨B, hB⟩ : ∃ B, w1.heap.size = B := ⟨_, rfl⟩
  have hwB : w.heap.size ≤ B := hB ▸ hb1.size
  have C1 := Lib.hid (hb1)
  have N1 : Hid (NetIs (w1.alloc (.cells #[.int .u8 1] 5)) N B (.slice none 0 0) [] 0) := by unfold Hid; rw [← hB]; exact h1.other ((Below.refl _ _).alloc (Nat.le_refl _) _)
  have C1a := Lib.hid (hb1.alloc hb1.size (.cells #[.int .u8 1] 5))
  clear h1 hb1
  clear hB
  go_wp2_with fail
  refine (put_any _ 1 1 [1] 0 N1.out (by simp) (brow_one w1 1) (by omega) (by omega)).mono ?_
  rintro e w2 ⟨v2, p1, rfl, h2, q1, q2, c2⟩
  have hb2 : Below w.heap.size w w2 := below_chg C1a.out c2 C1a.out.size (fun k hk e => by
    rcases e with e | e
    · omega
    · simp [Value.ownBlock] at e)
  have N2 := Lib.hid (h2.other ((Below.refl _ _).alloc (Nat.le_refl _) (.cells #[.int .u8 2] 5)))
  have C2a := Lib.hid (hb2.alloc hb2.size (.cells #[.int .u8 2] 5))
  have Q1 := Lib.hid q1
  have Q2 := Lib.hid q2
  clear h2 q1 q2 c2 hb2
  go_wp2_with fail
  refine (put_any _ 1 1 [2] 0 N2.out (by simp) (brow_one w2 2) (by omega) (by omega)).mono ?_
  rintro e w3 ⟨v3, p2, rfl, h3, r1, r2, c3⟩
  have hb3 : Below w.heap.size w w3 := below_chg C2a.out c3 C2a.out.size (fun k hk e => by
    rcases e with e | e
    · omega
    · have := (N2.out.2.1.lt k e).1; omega)
  have N3 : Hid (NetIs w3 N B v3 ([p1] ++ p2 :: []) 0) := h3
  have C3 := Lib.hid hb3
  obtain ⟨g2, bs2, b2⟩ := p2
  simp only at r1 r2
  subst r1 r2
  clear h3 c3 hb3
  go_wp2_with fail
  refine (take_any (-1) [p1] [] ⟨g2, [2], 0⟩ N3.out (by simp) (by omega) (by (show (-1 : Int) % 2 = 1; decide))).mono ?_
  rintro e w4 ⟨v4, rfl, h4, hl4, c4⟩
  have hb4 : Below w.heap.size w w4 := below_chg C3.out c4 C3.out.size (fun k hk e => by
    rcases e with e | e
    · omega
    · have := (N3.out.2.1.lt k e).1; omega)
  have C4 := Lib.hid hb4
  have hl5 : Blk (w4.alloc (.cells #[.slice (some ⟨g2, 0, none⟩) 1 1, .int .i64 0] 41)) g2 5 #[.int .u8 2] := Blk.more hl4 _
  have N4 : Hid (NetIs (w4.alloc (.cells #[.slice (some ⟨g2, 0, none⟩) 1 1, .int .i64 0] 41)) N B v4 [p1] 0) := h4.other ((Below.refl _ _).alloc (Nat.le_refl _) _)
  have x0 : (w4.alloc (.cells #[.slice (some ⟨g2, 0, none⟩) 1 1, .int .i64 0] 41)).cell? ⟨g2, 0, none⟩ = some (.int .u8 2) := (hl5.cell 0).trans rfl
  have C4a := Lib.hid (hb4.alloc hb4.size (.cells #[.slice (some ⟨g2, 0, none⟩) 1 1, .int .i64 0] 41))
  clear h4 hl4 c4 hb4 hl5
  simp only [Pk.sl, List.length_cons, List.length_nil, Nat.zero_add]
  go_wp2_with fail
  refine (len_net N4.out).mono ?_; rintro e w' ⟨rfl, rfl⟩
  go_wp2_with fail
  refine (age_any 8 N4.out (by simp) (by simp) (by unfold small; omega) (fun p hp => by rw [List.mem_singleton.1 hp, Q2.out]; unfold small; omega)).mono ?_
  have hk : keepL 8 [p1] = [] := by simp [keepL, old, Q2.out]
  rw [hk]
  rintro e w6 ⟨v6, rfl, h6, c6⟩
  have hb6 : Below w.heap.size w w6 := below_chg C4a.out c6 C4a.out.size (fun k hk e => by
    rcases e with e | e
    · omega
    · have := (N4.out.2.1.lt k e).1; omega)
  have N6 := Lib.hid h6
  have C6 := Lib.hid hb6
  clear h6 c6 hb6 hk
  go_wp2_with fail
  refine (len_net N6.out).mono ?_; rintro e w' ⟨rfl, rfl⟩
  go_wp2
  go_ret
  exact ⟨rfl, C6.out⟩
theorem NoNet.later {w v : World} {x : Value} (h : NoNet w x) (hb : Below w.heap.size w v) : NoNet v x := h.imp id (fun ⟨N, e, hk⟩ => ⟨N, e, hk.below hb hk.lt⟩)
set_option maxHeartbeats 1600000 in
theorem nil_walk (b : Value) (a : Int) (w : World) : Calls Try.prog 4 #[b, .int .i64 a] w fun e w' => e = .returned (.bool true) ∧ Below w.heap.size w w' := by
  have hd : NoNet (w.alloc (.cells #[.bool false, .slice none 0 0, .int .i64 0] 53)) (.pointer (some ⟨w.heap.size, 0, none⟩)) := Or.inr ⟨_, rfl, Blk.new _ _ _⟩
  have hn : ∀ W, NoNet W (.pointer none) := fun W => Or.inl rfl
  have HN := Lib.hid hn
  have D0 := Lib.hid hd
  have B0 : Hid (Below w.heap.size w (w.alloc (.cells #[.bool false, .slice none 0 0, .int .i64 0] 53))) := (Below.refl _ _).alloc (Nat.le_refl _) _
  clear hd hn
  go_enter Try.func4, Try.ntmps4
  go_wp2_with fail
  refine (take_none _ a _ (HN.out _)).mono ?_; rintro e w1 ⟨rfl, h1⟩
  have D1 : Hid (NoNet (w1.alloc (.cells #[.slice none 0 0, .int .i64 0] 41)) (.pointer (some ⟨w.heap.size, 0, none⟩))) := (D0.out.later h1).later ((Below.refl _ _).alloc (Nat.le_refl _) _)
  have B1 : Hid (Below w.heap.size w (w1.alloc (.cells #[.slice none 0 0, .int .i64 0] 41))) := (B0.out.trans (h1.mono B0.out.size)).alloc (B0.out.trans (h1.mono B0.out.size)).size _
  clear h1
  go_wp2_with fail
  refine (take_none _ a _ D1.out).mono ?_; rintro e w2 ⟨rfl, h1⟩
  have D2 : Hid (NoNet (w2.alloc (.cells #[.slice none 0 0, .int .i64 0] 41)) (.pointer (some ⟨w.heap.size, 0, none⟩))) := (D1.out.later h1).later ((Below.refl _ _).alloc (Nat.le_refl _) _)
  have B2 : Hid (Below w.heap.size w (w2.alloc (.cells #[.slice none 0 0, .int .i64 0] 41))) := (B1.out.trans (h1.mono B1.out.size)).alloc (B1.out.trans (h1.mono B1.out.size)).size _
  clear h1
  go_wp2_with fail
  refine (put_none _ _ a _ (HN.out _)).mono ?_; rintro e w' ⟨rfl, rfl⟩
  go_wp2_with fail
  refine (put_none _ _ a _ D2.out).mono ?_; rintro e w' ⟨rfl, rfl⟩
  go_wp2_with fail
  refine (double_none _ a _ (HN.out _)).mono ?_; rintro e w' ⟨rfl, rfl⟩
  go_wp2_with fail
  refine (double_none _ a _ D2.out).mono ?_; rintro e w' ⟨rfl, rfl⟩
  go_wp2_with fail
  refine (age_none _ a _ (HN.out _)).mono ?_; rintro e w3 ⟨rfl, h1⟩
  have D3 := Lib.hid (D2.out.later h1)
  have B3 := Lib.hid (B2.out.trans (h1.mono B2.out.size))
  clear h1
  go_wp2_with fail
  refine (age_none _ a _ D3.out).mono ?_; rintro e w4 ⟨rfl, h1⟩
  have D4 := Lib.hid (D3.out.later h1)
  have B4 := Lib.hid (B3.out.trans (h1.mono B3.out.size))
  clear h1
  go_wp2_with fail
  refine (len_none _ _ (HN.out _)).mono ?_; rintro e w' ⟨rfl, rfl⟩
  go_wp2_with fail
  refine (len_none _ _ D4.out).mono ?_; rintro e w' ⟨rfl, rfl⟩
  go_wp2_with fail
  refine (lost_none _ _ (HN.out _)).mono ?_; rintro e w' ⟨rfl, rfl⟩
  go_wp2_with fail
  refine (lost_none _ _ D4.out).mono ?_; rintro e w' ⟨rfl, rfl⟩
  go_wp2_with fail
  refine (all_none _ _ (HN.out _)).mono ?_; rintro e w' ⟨rfl, rfl⟩
  go_wp2_with fail
  refine (all_none _ _ D4.out).mono ?_; rintro e w' ⟨rfl, rfl⟩
  go_wp2_with fail
  refine (lives_any _).mono ?_; rintro e w5 ⟨rfl, h1⟩
  have B5 := Lib.hid (B4.out.trans (h1.mono B4.out.size))
  clear h1
  go_wp2
  go_ret
  exact ⟨rfl, B5.out⟩
end Go.Proofs.Ytiooikjaalphiaa
