/-
  The document's net: the walks of Double and Age. No condition.
-/
import Derived.Test.YtiooikjaalphiaaRefTake
namespace Go.Proofs.Ytiooikjaalphiaa
open Go.ChangeShapes Go.WideShapes Go.ChangeAt Go.RowKit
set_option linter.unusedVariables false
set_option linter.unusedSimpArgs false

theorem refPut_any (A : Option Addr) (c B : Nat) (rl : List (List Int × Int)) (lost : Int) (x : List Int × Int) (w : World) (h : RefIs w B (.slice A rl.length c) rl) (hB : B ≤ w.heap.size) (hn : rl.length ≤ 900) (hl : 0 ≤ lost ∧ lost ≤ 1000000) :
    Calls Try.prog 8 #[.agg #[.slice A rl.length c, .int .i64 lost], .agg #[.string (strOfNums x.1), .int .i64 x.2]] w (RPost w B (putL rl x) (putN rl.length lost) (decide (rl.length < 120))) := by
  by_cases hf : 120 ≤ rl.length
  · have hd : decide (rl.length < 120) = false := by simp; omega
    have := refPut_full A c B rl lost x w h hf hn hl
    unfold putL putN
    rw [if_pos hf, if_pos hf, hd]
    exact this
  · have hd : decide (rl.length < 120) = true := by simp; omega
    have := refPut_room A c B rl lost x w h hB (by omega)
    unfold putL putN
    rw [if_neg hf, if_neg hf, hd]
    exact this
theorem ref_diff {W : World} {B g : Nat} {t : TypeId} {cs : Array Value} {v : Value} {xs : List (List Int × Int)} (h : RefIs W B v xs) (hb : Blk W g t cs) (ht : t ≠ 36) (o : Nat) (x : Value) : RefIs (W.setCell ⟨g, o, none⟩ x) B v xs :=
  ⟨h.1, h.2.imp id fun ⟨k, cap, cur, h1, h2, h3, h4⟩ => ⟨k, cap, cur, h1, h2, Blk.away h3 (by show k ≠ g; exact (hb.differ h3 ht).symm) x, h4⟩⟩
theorem refDouble_zero (c : Nat) (A : Option Addr) (lost i : Int) (w : World) : Calls Try.prog 12 #[.agg #[.slice A 0 c, .int .i64 lost], .int .i64 i] w fun e w' => e = .returned (.tuple #[.agg #[.slice A 0 c, .int .i64 lost], .bool false]) ∧ Below w.heap.size w w' := by
  go_enter Try.func12, Try.ntmps12
  go_wp2_with fail
  refine bodyPost_ret (results_cell_tmp' rfl _ _ (w.heap.size + 1) 27 #[.slice A 0 c, .int .i64 lost] _ _ rfl (Blk.newAt _ 27 _ _ (by simp)) Try.underlying27 rfl size27) rfl ?_
  exact ⟨rfl, ((Below.refl _ _).alloc (Nat.le_refl _) _).alloc (by simp) _⟩
set_option maxHeartbeats 1600000 in
theorem refDouble_any (A : Option Addr) (c B : Nat) (rl : List (List Int × Int)) (lost i : Int) (k : Nat) (w : World) (h : RefIs w B (.slice A rl.length c) rl) (hB : B ≤ w.heap.size) (hn : rl.length ≤ 900) (hl : 0 ≤ lost ∧ lost ≤ 1000000) (hk : k < rl.length) (hi : -9223372036854775808 ≤ i ∧ i ≤ 9223372036854775807) (hki : i % (rl.length : Nat) = k) :
    Calls Try.prog 12 #[.agg #[.slice A rl.length c, .int .i64 lost], .int .i64 i] w (RPost w B (putL rl rl[k]) (putN rl.length lost) (decide (rl.length < 120))) := by
  obtain ⟨g, rfl, _, hc1, hc2, hg1, hg2, hcl⟩ := h.some_ (by omega)
  have hat := flatR_at rl k hk
  have x0 := hcl _ _ hat.1
  have x1 := hcl _ _ hat.2
  have HPUT : Hid (∀ W, Below w.heap.size w W → Calls Try.prog 8 #[.agg #[.slice (some ⟨g, 0, none⟩) rl.length c, .int .i64 lost], .agg #[.string (strOfNums rl[k].1), .int .i64 rl[k].2]] W (RPost W B (putL rl rl[k]) (putN rl.length lost) (decide (rl.length < 120)))) := fun W hW => refPut_any _ c B rl lost rl[k] W (h.later hW) (Nat.le_trans hB hW.size) hn hl
  obtain ⟨L, hL⟩ : ∃ L, rl.length = L := ⟨_, rfl⟩
  have HAT : Hid (∀ W, Calls Try.prog 22 #[.agg #[.slice (some ⟨g, 0, none⟩) L c, .int .i64 lost], .int .i64 i] W fun e w' => e = .returned (.int .i64 (k : Nat)) ∧ Below W.heap.size W w') := fun W => by
    have := refAt_any (some ⟨g, 0, none⟩) c L lost i W hi (by omega) (by omega)
    rw [hL] at hki
    rwa [hki] at this
  rw [hL] at hk hc1 HPUT ⊢
  generalize rl[k] = p at *
  have t1 : ((L : Int) == 0) = false := by simp; omega
  have b1 : (0 : Int) ≤ (k : Int) := Int.natCast_nonneg k
  have b2 : (k : Int) < (L : Int) := Int.ofNat_lt.2 hk
  have K0 : Hid (Blk ((w.alloc (.cells #[.slice (some ⟨g, 0, none⟩) L c, .int .i64 lost] 27)).alloc (.cells #[.slice none 0 0, .int .i64 0] 27)) w.heap.size 27 #[.slice (some ⟨g, 0, none⟩) L c, .int .i64 lost]) := (Blk.new w 27 _).more _
  have K1 : Hid (Blk ((w.alloc (.cells #[.slice (some ⟨g, 0, none⟩) L c, .int .i64 lost] 27)).alloc (.cells #[.slice none 0 0, .int .i64 0] 27)) (w.heap.size + 1) 27 #[.slice none 0 0, .int .i64 0]) := Blk.newAt _ 27 _ _ (by simp)
  have KB : Hid (Below w.heap.size w ((w.alloc (.cells #[.slice (some ⟨g, 0, none⟩) L c, .int .i64 lost] 27)).alloc (.cells #[.slice none 0 0, .int .i64 0] 27))) := ((Below.refl _ _).alloc (Nat.le_refl _) _).alloc (by simp) _
  have hsz : ((w.alloc (.cells #[.slice (some ⟨g, 0, none⟩) L c, .int .i64 lost] 27)).alloc (.cells #[.slice none 0 0, .int .i64 0] 27)).heap.size = w.heap.size + 2 := by simp
  obtain ⟨wa, hwaE⟩ : ∃ wa, (w.alloc (.cells #[.slice (some ⟨g, 0, none⟩) L c, .int .i64 lost] 27)).alloc (.cells #[.slice none 0 0, .int .i64 0] 27) = wa := ⟨_, rfl⟩
  rw [hwaE] at K0 K1 KB hsz
  have HWE := Lib.hid hwaE
  have HSZ := Lib.hid (Nat.le_of_eq hsz.symm)
  have z0 : wa.cell? ⟨w.heap.size, 0, none⟩ = some (.slice (some ⟨g, 0, none⟩) L c) := (K0.out.cell 0).trans rfl
  have z1 : wa.cell? ⟨w.heap.size, 1, none⟩ = some (.int .i64 lost) := (K0.out.cell 1).trans rfl
  have z2 : wa.cell? ⟨g, k * 2, none⟩ = some (.string (strOfNums p.1)) := (KB.out.cell (p := ⟨g, _, none⟩) hg2).trans x0
  have z3 : wa.cell? ⟨g, k * 2 + 1, none⟩ = some (.int .i64 p.2) := (KB.out.cell (p := ⟨g, _, none⟩) hg2).trans x1
  clear h hat hki hL hcl hwaE hsz x0 x1 hi
  have n1 : ¬ g = w.heap.size + 1 := by omega
  have n2 : g ≠ w.heap.size + 1 := n1
  have n3 : ¬ w.heap.size + 1 = g := by omega
  go_enter Try.func12, Try.ntmps12
  go_wp2_with fail
  rw [HWE.out]
  go_region_held3 (fun W => W.cell? ⟨w.heap.size, 0, none⟩ = some (.slice (some ⟨g, 0, none⟩) L c) ∧ W.cell? ⟨w.heap.size, 1, none⟩ = some (.int .i64 lost) ∧ W.cell? ⟨g, k * 2, none⟩ = some (.string (strOfNums p.1)) ∧ W.cell? ⟨g, k * 2 + 1, none⟩ = some (.int .i64 p.2)) (first | exact ⟨q0, q1, q2, q3⟩ | exact ⟨y0, y1, y2, y3⟩ | exact ⟨z0, z1, z2, z3⟩ | go_keep)
    (first
      | (go_at_call 22; refine Calls.mono (HAT.out wa.drew) ?_; rintro e w1 ⟨rfl, h0⟩; have h1 : Below wa.heap.size wa w1 := ((Below.refl wa.heap.size wa).drew).trans h0; clear h0; have J0 := Lib.hid (K0.out.below h1 K0.out.lt); have J1 := Lib.hid (K1.out.below h1 K1.out.lt); have JB : Hid (Below w.heap.size w w1) := KB.out.trans (h1.mono KB.out.size); have y0 : w1.cell? ⟨w.heap.size, 0, none⟩ = some (.slice (some ⟨g, 0, none⟩) L c) := (J0.out.cell 0).trans rfl; have y1 : w1.cell? ⟨w.heap.size, 1, none⟩ = some (.int .i64 lost) := (J0.out.cell 1).trans rfl; have y2 : w1.cell? ⟨g, k * 2, none⟩ = some (.string (strOfNums p.1)) := (h1.cell (p := ⟨g, _, none⟩) (Nat.lt_of_lt_of_le hg2 KB.out.size)).trans z2; have y3 : w1.cell? ⟨g, k * 2 + 1, none⟩ = some (.int .i64 p.2) := (h1.cell (p := ⟨g, _, none⟩) (Nat.lt_of_lt_of_le hg2 KB.out.size)).trans z3; clear h1)
      | (go_at_call 8; refine Calls.mono (HPUT.out w1 JB.out) ?_; rintro e w2 ⟨A2, c2, rfl, h2, h3⟩; have HR2 := Lib.hid h2; have I1 := J1.out.below h3 J1.out.lt; have H1 := Lib.hid I1; have H0 := Lib.hid (J0.out.below h3 J0.out.lt); have IB : Hid (Below w.heap.size w w2) := JB.out.trans (h3.mono JB.out.size); have q0 : w2.cell? ⟨w.heap.size, 0, none⟩ = some (.slice (some ⟨g, 0, none⟩) L c) := (H0.out.cell 0).trans rfl; have q1 : w2.cell? ⟨w.heap.size, 1, none⟩ = some (.int .i64 lost) := (H0.out.cell 1).trans rfl; have q2 : w2.cell? ⟨g, k * 2, none⟩ = some (.string (strOfNums p.1)) := (h3.cell (p := ⟨g, _, none⟩) (Nat.lt_of_lt_of_le hg2 JB.out.size)).trans y2; have q3 : w2.cell? ⟨g, k * 2 + 1, none⟩ = some (.int .i64 p.2) := (h3.cell (p := ⟨g, _, none⟩) (Nat.lt_of_lt_of_le hg2 JB.out.size)).trans y3; have u0 : w2.cell? ⟨w.heap.size + 1, 0, none⟩ = some (.slice none 0 0) := (I1.cell 0).trans rfl; have u1 : w2.cell? ⟨w.heap.size + 1, 1, none⟩ = some (.int .i64 0) := (I1.cell 1).trans rfl; have u2 := I1.free 0; have u3 := I1.free 1; clear h2 h3 I1))
  all_goals
    go_wp2_with fail
    refine bodyPost_ret (results_cell_tmp' rfl _ _ (w.heap.size + 1) 27 #[.slice A2 (putL rl p).length c2, .int .i64 (putN L lost)] _ _ rfl (by first | exact (H1.out.put 0 _ rfl).put 1 _ rfl | exact ((H1.out.draw.put 0 _ rfl).put 1 _ rfl)) Try.underlying27 rfl size27) rfl ?_
    have hs := HSZ.out
    refine ⟨A2, c2, rfl, ?_, ?_⟩
    · first | exact ref_diff (ref_diff HR2.out H1.out (by decide) 0 _) (H1.out.put 0 _ rfl) (by decide) 1 _ | exact (ref_diff (ref_diff HR2.out H1.out (by decide) 0 _) (H1.out.put 0 _ rfl) (by decide) 1 _).later ((Below.refl _ _).drew)
    · repeat' (first | (with_reducible exact IB.out) | (with_reducible refine Below.drew ?_) | (refine Below.setCell ?_ (by first | exact Nat.le_succ _ | exact Nat.le_succ_of_le (Nat.le_succ _)) _))
end Go.Proofs.Ytiooikjaalphiaa
