/-
  The walk of lives. No condition.
-/
import Derived.Test.YtikceomnkkpljaaSearch
namespace Go.Proofs.Ytikceomnkkpljaa
open Go.ChangeShapes Go.WideShapes Go.ChangeAt Go.RowKit
set_option linter.unusedVariables false
set_option linter.unusedSimpArgs false

theorem prow2 (w : World) (a b c d : Int) : PRow (w.alloc (.cells #[.int .i64 a, .int .i64 b, .int .i64 c, .int .i64 d] 42)) (some ⟨w.heap.size, 0, none⟩) [(a, b), (c, d)] := fun _ => by
  have h : Blk (w.alloc (.cells #[.int .i64 a, .int .i64 b, .int .i64 c, .int .i64 d] 42)) w.heap.size 42 #[.int .i64 a, .int .i64 b, .int .i64 c, .int .i64 d] := Blk.new _ _ _
  refine ⟨w.heap.size, 0, rfl, by simp, fun i hi => ?_⟩
  rcases (show i = 0 ∨ i = 1 by simp at hi; omega) with rfl | rfl
  · exact ⟨(h.cell 0).trans rfl, (h.cell 1).trans rfl⟩
  · exact ⟨(h.cell 2).trans rfl, (h.cell 3).trans rfl⟩
theorem prow1 (w : World) (a b : Int) : PRow (w.alloc (.cells #[.int .i64 a, .int .i64 b] 42)) (some ⟨w.heap.size, 0, none⟩) [(a, b)] := fun _ => by
  have h : Blk (w.alloc (.cells #[.int .i64 a, .int .i64 b] 42)) w.heap.size 42 #[.int .i64 a, .int .i64 b] := Blk.new _ _ _
  refine ⟨w.heap.size, 0, rfl, by simp, fun i hi => ?_⟩
  obtain rfl : i = 0 := by simp at hi; omega
  exact ⟨(h.cell 0).trans rfl, (h.cell 1).trans rfl⟩
theorem nrow1 (w : World) (a : Int) : NRow (w.alloc (.cells #[.int .i64 a] 3)) (some ⟨w.heap.size, 0, none⟩) [a] := fun _ => by
  have h : Blk (w.alloc (.cells #[.int .i64 a] 3)) w.heap.size 3 #[.int .i64 a] := Blk.new _ _ _
  refine ⟨w.heap.size, 0, rfl, by simp, fun i hi => ?_⟩
  obtain rfl : i = 0 := by simp at hi; omega
  exact (h.cell 0).trans rfl
theorem lives_any (w : World) : Calls Try.prog 6 #[] w fun e w' => e = .returned (.bool true) ∧ Below w.heap.size w w' := by
  have HSYN := Lib.hid (fun W : World => syn_some (some ⟨W.heap.size, 0, none⟩) 2 2 [(1, 2), (2, 3)] 7 _ (prow2 W 1 2 2 3) rfl (by omega) (by omega) (by omega) (by intro p hp; simp at hp; rcases hp with rfl | rfl <;> exact ⟨rfl, rfl⟩) (by decide))
  have HNEW := Lib.hid (fun W : World => newest_any (some ⟨W.heap.size, 0, none⟩) 2 2 [(1, 2), (2, 3)] _ (prow2 W 1 2 2 3) rfl (by omega))
  have HSEA := Lib.hid (fun W : World => search_any (some ⟨W.heap.size, 0, none⟩) (some ⟨W.heap.size + 1, 0, none⟩) 1 1 1 1 [(1, 2)] [2] ((W.alloc (.cells #[.int .i64 1, .int .i64 2] 42)).alloc (.cells #[.int .i64 2] 3)) ((prow1 W 1 2).later ((Below.refl _ _).alloc (Nat.le_refl _) _)) rfl (by omega) (by omega) (by omega) (by intro p hp; simp at hp; subst hp; exact ⟨rfl, rfl⟩) (by have := nrow1 (W.alloc (.cells #[.int .i64 1, .int .i64 2] 42)) 2; rw [World.size_alloc] at this; exact this) rfl (by omega))
  have e1 : Hid ((synL [(1, 2), (2, 3)] (u32w 7)).length = 4) := by unfold Hid; decide
  have e2 : Hid ((searchL [(1, 2)] [2]).length = 1) := by unfold Hid; decide
  have e3 : Hid (newest [(1, 2), (2, 3)] = (2, 3)) := by unfold Hid; decide
  have e4 : Hid (steerL 0 = []) := by unfold Hid; decide
  have e5 : Hid (sigV 3 = (u8s (adrL 0 6 3)).toArray) := rfl
  have e6 : Hid (∀ W : World, (Op.equalIn 10000 34 (.agg (u8s (adrL 0 6 3)).toArray) (.agg zeroA)).run Try.prog W = .ok false W) := fun W => by
    have := eq34 (adrL 0 6 3) (List.replicate 16 0) rfl rfl W
    rw [show decide (adrL 0 6 3 = List.replicate 16 0) = false by decide] at this
    exact this
  go_enter Try.func6, Try.ntmps6
  go_wp2_with fail
  refine (HSYN.out w).mono ?_; rintro e w1 ⟨v1, rfl, o1, b1⟩
  obtain ⟨A1, c1, rfl⟩ := o1.form
  rw [e1.out]
  have B1 : Hid (Below w.heap.size w w1) := ((Below.refl w.heap.size w).alloc (Nat.le_refl _) _).trans (b1.mono (by simp))
  clear o1 b1
  go_wp2_with fail
  refine (HNEW.out w1).mono ?_; rintro e w2 ⟨rfl, b2⟩
  rw [e3.out]
  have B2 : Hid (Below w.heap.size w w2) := B1.out.trans (((Below.refl w1.heap.size w1).alloc (Nat.le_refl _) _).trans (b2.mono (by simp)) |>.mono B1.out.size)
  clear b2
  go_wp2_with fail
  refine (steer_any 0 _).mono ?_; rintro e w3 ⟨v3, rfl, o3, b3⟩
  obtain ⟨A3, c3, rfl⟩ := o3.form
  rw [e4.out]
  have B3 : Hid (Below w.heap.size w w3) := B2.out.trans (b3.mono B2.out.size)
  clear o3 b3
  go_wp2_with fail
  refine (HSEA.out w3).mono ?_; rintro e w4 ⟨v4, rfl, o4, b4⟩
  obtain ⟨A4, c4, rfl⟩ := o4.form
  rw [e2.out]
  have B4 : Hid (Below w.heap.size w w4) := B3.out.trans ((((Below.refl w3.heap.size w3).alloc (Nat.le_refl _) _).alloc (by simp) _).trans (b4.mono (by simp; omega)) |>.mono B3.out.size)
  clear o4 b4
  go_wp2_with fail
  refine (signal_any 3 _).mono ?_; rintro e w5 ⟨rfl, b5⟩
  rw [e5.out]
  have B5 : Hid (Below w.heap.size w w5) := B4.out.trans (b5.mono B4.out.size)
  have hq := e6.out w5
  unfold zeroA at hq
  clear b5
  go_wp2_with fail
  go_ret
  exact ⟨rfl, B5.out⟩
end Go.Proofs.Ytikceomnkkpljaa
