/-
  The chapter's constants: what lives answers.
-/
import Derived.Test.YtmkjljblabdbhaaRefSum
import Derived.Handy
import Derived.OpenShut
namespace Go.Proofs.Ytmkjljblabdbhaa
open Go.ChangeShapes Go.WideShapes Go.ChangeAt Go.RowKit
set_option linter.unusedVariables false

theorem sum_nil : sumI 506097522914230528 1084818905618843912 [] = 8246050544436514353 := by decide +kernel
theorem sum_row : sumI 506097522914230528 1084818905618843912 [0, 1, 2, 3, 4, 5, 6, 7, 8, 9, 10, 11, 12, 13, 14] = 11613035633349379557 := by decide +kernel

theorem sum_range (x y : Int) (bs : List Int) : 0 ≤ sumI x y bs ∧ sumI x y bs ≤ 18446744073709551615 := by
  unfold sumI xr
  exact wf_u64 (wf_bits _ _ _ _)
theorem official_any (w : World) : Calls Try.prog 14 #[] w fun e w' => e = .returned (.agg #[.int .u64 506097522914230528, .int .u64 1084818905618843912]) ∧ Below w.heap.size w w' := by
  go_enter Try.func14, Try.ntmps14
  go_wp2
  go_returns
  exact ⟨rfl, (Below.refl w.heap.size w).alloc (Nat.le_refl _) _⟩

def lrow : Array Value := #[.int .u8 0, .int .u8 1, .int .u8 2, .int .u8 3, .int .u8 4, .int .u8 5, .int .u8 6, .int .u8 7, .int .u8 8, .int .u8 9, .int .u8 10, .int .u8 11, .int .u8 12, .int .u8 13, .int .u8 14]
theorem bRow_lits {w : World} {g : Nat} (h : Blk w g 5 lrow) : BRow w (some ⟨g, 0, none⟩) 15 [0, 1, 2, 3, 4, 5, 6, 7, 8, 9, 10, 11, 12, 13, 14] := by
  refine ⟨rfl, by unfold Bytes; decide, fun _ => ⟨g, 0, rfl, h.lt, fun i hi => ?_⟩⟩
  rw [Nat.zero_add, h.cell]
  rcases (show i = 0 ∨ i = 1 ∨ i = 2 ∨ i = 3 ∨ i = 4 ∨ i = 5 ∨ i = 6 ∨ i = 7 ∨ i = 8 ∨ i = 9 ∨ i = 10 ∨ i = 11 ∨ i = 12 ∨ i = 13 ∨ i = 14 by omega) with rfl | rfl | rfl | rfl | rfl | rfl | rfl | rfl | rfl | rfl | rfl | rfl | rfl | rfl | rfl <;> rfl
theorem lives_any (w : World) : Calls Try.prog 5 #[] w fun e w' => e = .returned (.bool true) ∧ Below w.heap.size w w' := by
  have s1 := Lib.hid sum_nil
  have s2 := Lib.hid sum_row
  have s3 : Hid (md 7 5 = 2) := by unfold Hid; decide
  have s4 : Hid (md 7 0 = 0) := by unfold Hid; decide
  go_enter Try.func5, Try.ntmps5
  go_wp2_with fail
  refine (official_any _).mono ?_; rintro e w1 ⟨rfl, h1⟩
  have H1 := Lib.hid h1
  clear h1
  go_wp2_with fail
  refine (sum_any _ _ none 0 0 [] _ (BRow.none_ _ _) (by omega) (Nat.le_refl _)).mono ?_; rintro e w2 ⟨rfl, h2⟩
  have H2 := Lib.hid h2
  clear h2
  rw [s1.out]
  go_wp2_with fail
  refine (official_any _).mono ?_; rintro e w3 ⟨rfl, h3⟩
  have H3 := Lib.hid h3
  clear h3
  go_wp2_with fail
  have HR : Hid (BRow w3 (some ⟨w.heap.size, 0, none⟩) 15 [0, 1, 2, 3, 4, 5, 6, 7, 8, 9, 10, 11, 12, 13, 14]) := by
    have b0 : Blk (w.alloc (.cells lrow 5)) w.heap.size 5 lrow := Blk.new _ _ _
    have b1 := b0.below H1.out b0.lt
    have b2 := b1.below H2.out b1.lt
    exact bRow_lits (b2.below H3.out b2.lt)
  refine (sum_any _ _ _ 15 15 _ _ HR.out (by omega) (Nat.le_refl _)).mono ?_; rintro e w4 ⟨rfl, h4⟩
  have H4 := Lib.hid h4
  clear h4
  rw [s2.out]
  go_wp2_with fail
  refine (mod_any 7 5 _ (by omega) (by omega)).mono ?_; rintro e w5 ⟨rfl, rfl⟩
  rw [s3.out]
  go_wp2_with fail
  refine (mod_any 7 0 _ (by omega) (by omega)).mono ?_; rintro e w5 ⟨rfl, rfl⟩
  rw [s4.out]
  go_wp2_with fail
  go_ret
  refine ⟨ret_bool rfl, ?_⟩
  have B0 : Below w.heap.size w (w.alloc (.cells lrow 5)) := (Below.refl _ _).alloc (Nat.le_refl _) _
  have b1 := B0.trans (H1.out.mono B0.size)
  have b2 := b1.trans (H2.out.mono b1.size)
  have b3 := b2.trans (H3.out.mono b2.size)
  exact b3.trans (H4.out.mono b3.size)

theorem KeyedSums.walk (x y : Int) (A : Option Addr) (n c : Nat) (zs : List Int) (m : Int) (w : World) (h : IsRow .u8 w A n c zs) (hm : (Lit.int .i64 m).wf = true) :
    Calls Try.prog 3 #[.agg #[.int .u64 x, .int .u64 y], .slice A n c, .int .i64 m] w fun e w' => e = .returned (.bool true) ∧ Below w.heap.size w w' := by
  have hB := bRow_of h
  have hl := h.len_le
  obtain ⟨bs, hbs⟩ : ∃ bs, zs.take n = bs := ⟨_, rfl⟩
  rw [hbs] at hB
  clear hbs
  have HB := Lib.hid hB
  obtain ⟨l1, l2, l3⟩ := hl
  have hm := (wf_i64 hm).2
  have hs := sum_range x y bs
  clear hB h
  by_cases hn : n ≤ 3000
  · go_enter Try.func3, Try.ntmps3
    go_wp2_with fail
    have B1 : Hid (Below w.heap.size w (w.alloc (.cells #[.int .u64 x, .int .u64 y] 24))) := (Below.refl _ _).alloc (Nat.le_refl _) _
    refine (sum_any _ _ A n c bs _ (HB.out.later B1.out) hn l1).mono ?_; rintro e w2 ⟨rfl, h2⟩
    have B2 := Lib.hid (B1.out.trans (h2.mono B1.out.size))
    have bk : Blk w2 w.heap.size 24 #[.int .u64 x, .int .u64 y] := (Blk.new _ _ _).below h2 (by simp)
    have k0 : w2.cell? ⟨w.heap.size, 0, none⟩ = some (.int .u64 x) := bk.cell 0
    have k1 : w2.cell? ⟨w.heap.size, 1, none⟩ = some (.int .u64 y) := bk.cell 1
    clear h2 bk
    go_wp2_with fail
    refine (refSum_any _ _ A n c bs _ (HB.out.later B2.out) hn).mono ?_; rintro e w3 ⟨rfl, h3⟩
    have B3 := Lib.hid (B2.out.trans (h3.mono B2.out.size))
    clear h3
    go_wp2_with fail
    refine (mod_any _ m _ hs hm).mono ?_; rintro e w4 ⟨rfl, rfl⟩
    go_wp2_with fail
    refine (refMod_any _ m _ hs hm).mono ?_; rintro e w4 ⟨rfl, rfl⟩
    go_wp2_with fail
    refine (lives_any _).mono ?_; rintro e w4 ⟨rfl, h4⟩
    have B4 := Lib.hid (B3.out.trans (h4.mono B3.out.size))
    clear h4
    go_wp2_with fail
    go_ret
    exact ⟨ret_bool rfl, B4.out⟩
  · go_enter Try.func3, Try.ntmps3
    go_wp2_with fail
    refine (lives_any _).mono ?_; rintro e w2 ⟨rfl, h2⟩
    go_wp2
    go_ret
    exact ⟨ret_bool rfl, ((Below.refl _ _).alloc (Nat.le_refl _) _).trans (h2.mono (by simp))⟩
end Go.Proofs.Ytmkjljblabdbhaa
