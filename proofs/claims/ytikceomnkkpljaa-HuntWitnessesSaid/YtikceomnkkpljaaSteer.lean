/-
  The walks of Steer and Signal, of both. No condition.
-/
import Derived.Test.YtikceomnkkpljaaSame
namespace Go.Proofs.Ytikceomnkkpljaa
open Go.ChangeShapes Go.WideShapes Go.ChangeAt Go.RowKit
set_option linter.unusedVariables false
set_option linter.unusedSimpArgs false

def steerL (n : Int) : List Seg := if isN n = true then [(n, 5, 0)] else []
theorem steer_any (n : Int) (w : World) : Calls Try.prog 14 #[.int .i64 n] w fun e w' => ∃ v, e = .returned v ∧ OwnA w' w.heap.size v (steerL n) ∧ Below w.heap.size w w' := by
  have L0 : Hid (ListIs (w.alloc (.cells #[.int .u32 0, .slice none 0 0] 47)) w.heap.size (w.heap.size + 1) 0 (.slice none 0 0) []) := ⟨Blk.new _ _ _, OwnA.nil _ _, by omega, by simp⟩
  have B0 : Hid (Below w.heap.size w (w.alloc (.cells #[.int .u32 0, .slice none 0 0] 47))) := (Below.refl _ _).alloc (Nat.le_refl _) _
  unfold steerL
  cases hN : isN n with
  | false =>
    have HN := Lib.hid hN
    clear hN
    rw [if_neg (by decide)]
    go_enter Try.func14, Try.ntmps14
    go_wp2_with (first
      | (go_at_call 19; refine (is_any n _).mono ?_; rintro e w' ⟨rfl, rfl⟩; rw [HN.out])
      | fail)
    go_ret
    exact ⟨_, rfl, OwnA.nil _ _, B0.out⟩
  | true =>
    have HN := Lib.hid hN
    have hr := isN_ok hN
    clear hN
    rw [if_pos rfl]
    have HA := Lib.hid (add_any w.heap.size (w.heap.size + 1) 0 n 5 (.slice none 0 0) [] _ L0.out (by simp) (by omega) (by omega) (by omega))
    go_enter Try.func14, Try.ntmps14
    go_wp2_with (first
      | (go_at_call 19; refine (is_any n _).mono ?_; rintro e w' ⟨rfl, rfl⟩; rw [HN.out])
      | fail)
    refine HA.out.mono ?_; rintro e w2 ⟨⟨r, rfl⟩, v2, h1, h2⟩
    have hx1 : w2.cell? ⟨w.heap.size, 1, none⟩ = some v2 := (h1.blk.cell 1).trans rfl
    have R : Hid (OwnA w2 w.heap.size v2 [(n, 5, 0)] ∧ Below w.heap.size w w2) := ⟨h1.row.base (by omega), L0.out.below h2 B0.out (Nat.le_refl _) (by simp)⟩
    clear h1 h2
    go_wp2_with fail
    go_ret
    exact ⟨_, rfl, R.out⟩
theorem refSteer_any (n : Int) (w : World) : Calls Try.prog 15 #[.int .i64 n] w fun e w' => ∃ v, e = .returned v ∧ OwnA w' w.heap.size v (steerL n) ∧ Below w.heap.size w w' := by
  unfold steerL
  cases hN : isN n with
  | false =>
    have HN := Lib.hid hN
    clear hN
    rw [if_neg (by decide)]
    go_enter Try.func15, Try.ntmps15
    go_wp2_with (first
      | (go_at_call 20; refine (refIs_any n _).mono ?_; rintro e w' ⟨rfl, rfl⟩; rw [HN.out])
      | fail)
    go_ret
    exact ⟨_, rfl, OwnA.nil _ _, Below.refl _ _⟩
  | true =>
    have HN := Lib.hid hN
    have hr := isN_ok hN
    clear hN
    rw [if_pos rfl]
    have HS := Lib.hid (seg_first n 5 0 w.heap.size (.slice none 0 0) [] w w (OwnA.nil _ _) (Nat.le_refl _) (Below.refl _ _) (by omega) (by omega) (by omega))
    have HOW : Hid (∀ (w2 : World) (cs : Array Value), w.heap.size ≤ w2.heap.size → cs.toList = Seg.cells (n, 5, 0) → OwnA (w2.alloc (.cells cs 34)) w.heap.size (.slice (some ⟨w2.heap.size, 0, none⟩) 1 1) [(n, 5, 0)]) := by
      intro w2 cs h1 h2
      refine ⟨rfl, Or.inr ⟨w2.heap.size, 1, cs, rfl, h1, Blk.new w2 34 _, Nat.le_refl _, by unfold maxLen; omega, ?_, ?_⟩⟩
      · have : cs.toList.length = 16 := by rw [h2]; rfl
        simpa using this
      · rw [h2]; rfl
    go_enter Try.func15, Try.ntmps15
    go_wp2_with (first
      | (go_at_call 20; refine (refIs_any n _).mono ?_; rintro e w' ⟨rfl, rfl⟩; rw [HN.out])
      | fail)
    refine HS.out.mono ?_; rintro e w4 ⟨p, q, x0, x1, x2, x3, rfl, LT, O4⟩
    have R : Hid (OwnA (w4.alloc (.cells #[.int .u8 253, .int .u8 108, .int .u8 0, .int .u8 98, .int .u8 0, .int .u8 0, .int .u8 0, .int .u8 0, .int .u8 p, .int .u8 q, .int .u8 5, .int .u8 0, .int .u8 x0, .int .u8 x1, .int .u8 x2, .int .u8 x3] 34)) w.heap.size (.slice (some ⟨w4.heap.size, 0, none⟩) 1 1) [(n, 5, 0)] ∧ Below w.heap.size w (w4.alloc (.cells #[.int .u8 253, .int .u8 108, .int .u8 0, .int .u8 98, .int .u8 0, .int .u8 0, .int .u8 0, .int .u8 0, .int .u8 p, .int .u8 q, .int .u8 5, .int .u8 0, .int .u8 x0, .int .u8 x1, .int .u8 x2, .int .u8 x3] 34))) := ⟨HOW.out w4 _ O4.out.2.1 LT.out, O4.out.2.2.alloc O4.out.2.1 _⟩
    go_wp2_with fail
    go_ret
    exact ⟨_, rfl, R.out⟩
def sigV (n : Int) : Array Value := if isN n = true then adrV 0 6 n else zeroA
theorem u32w_in {n : Int} (h : isN n = true) : IntKind.u32.wrap n = n := by have := isN_ok h; rw [IntKind.wrap_u32]; omega
theorem zero16_size : (Try.prog.info? 34).map (·.size) = some zeroA.size := size34
theorem signal_any (n : Int) (w : World) : Calls Try.prog 16 #[.int .i64 n] w fun e w' => e = .returned (.agg (sigV n)) ∧ Below w.heap.size w w' := by
  have K0 : Hid (Blk (w.alloc (.cells zeroA 34)) w.heap.size 34 zeroA) := Blk.new _ _ _
  have B0 : Hid (Below w.heap.size w (w.alloc (.cells zeroA 34))) := (Below.refl _ _).alloc (Nat.le_refl _) _
  unfold sigV
  cases hN : isN n with
  | false =>
    have HN := Lib.hid hN
    clear hN
    rw [if_neg (by decide)]
    go_enter Try.func16, Try.ntmps16
    go_wp2_with (first
      | (go_at_call 19; refine (is_any n _).mono ?_; rintro e w' ⟨rfl, rfl⟩; rw [HN.out])
      | fail)
    go_returns
    exact ⟨by simp [go_sem, zeroA], by first | exact B0.out | (simpa using B0.out)⟩
  | true =>
    have HN := Lib.hid hN
    have hu := u32w_in hN
    have hr := isN_ok hN
    clear hN
    rw [if_pos rfl]
    have L1 : Hid (ListIs ((w.alloc (.cells zeroA 34)).alloc (.cells #[.int .u32 n, .slice none 0 0] 47)) (w.heap.size + 1) (w.heap.size + 2) n (.slice none 0 0) []) := ⟨Blk.newAt _ 47 _ _ (by simp), OwnA.nil _ _, by omega, by simp⟩
    have B1 : Hid (Below w.heap.size w ((w.alloc (.cells zeroA 34)).alloc (.cells #[.int .u32 n, .slice none 0 0] 47))) := B0.out.alloc B0.out.size _
    have K1 : Hid (Blk ((w.alloc (.cells zeroA 34)).alloc (.cells #[.int .u32 n, .slice none 0 0] 47)) w.heap.size 34 zeroA) := K0.out.more _
    have HA := Lib.hid (add_any (w.heap.size + 1) (w.heap.size + 2) n 0 6 (.slice none 0 0) [] _ L1.out (by simp) (by omega) (by omega) (by omega))
    go_enter Try.func16, Try.ntmps16
    go_wp2_with (first
      | (go_at_call 19; refine (is_any n _).mono ?_; rintro e w' ⟨rfl, rfl⟩; rw [HN.out])
      | fail)
    refine HA.out.mono ?_; rintro e w2 ⟨⟨r, rfl⟩, v2, h1, h2⟩
    have K2 : Hid (Blk w2 w.heap.size 34 zeroA) := K1.out.kept h2 (fun e => by
      rcases e with e | e
      · omega
      · simp [Value.ownBlock] at e)
    have B2 : Hid (Below w.heap.size w w2) := L1.out.below h2 B1.out (by omega) (by simp; omega)
    have hx1 : w2.cell? ⟨w.heap.size + 1, 1, none⟩ = some v2 := (h1.blk.cell 1).trans rfl
    obtain ⟨g, c, rfl, _, _, hg, hc⟩ := h1.row.row (by simp)
    have hr1 : Hid (w2.rangeAt g 0 (Seg.cells (0, 6, n))) := fun j u hj => by
      rw [Nat.zero_add]
      exact hc j u (by simpa [flatA] using hj)
    obtain ⟨cs, hcs⟩ : ∃ cs, adrV 0 6 n = cs := ⟨_, rfl⟩
    have hcl : Hid (cs.toList = Seg.cells (0, 6, n)) := by unfold Hid; rw [← hcs]; rfl
    have hi34 : Hid ((Try.prog.info? 34).map (·.size) = some cs.size) := by unfold Hid; rw [← hcs]; exact size34
    have hi34l : Hid ((Try.prog.info? 34).map (·.size) = some cs.toList.length) := by unfold Hid; rw [← hcs]; exact size34
    have hold : Hid (zeroA.size = cs.size) := by unfold Hid; rw [← hcs]; rfl
    have hall : Hid (cs.all (·.oneCell') = true) := by unfold Hid; rw [← hcs]; unfold adrV; simpa using u8s_one
    have hr2 : Hid (w2.rangeAt g 0 cs.toList) := by unfold Hid; rw [hcl.out]; exact hr1.out
    have HCS := Lib.hid hcs
    clear h1 h2 hc hcs
    go_wp2_with (first
      | (refine wpList_load_mid rfl 34 _ rfl g 0 rfl cs.toList _ hr2.out Try.underlying34 rfl hi34l.out ?_)
      | (refine wpList_store_row rfl 34 _ _ rfl w.heap.size cs rfl rfl 34 zeroA K2.out hi34.out hold.out hall.out ?_)
      | fail)
    refine bodyPost_ret (results_cell_row rfl _ _ w.heap.size 34 cs _ _ rfl (setRow_heap w2 _ zeroA cs 34 (0, 0) K2.out) Try.underlying34 rfl hi34.out) rfl ?_
    exact ⟨by rw [← HCS.out], below_setRow B2.out (Nat.le_refl _) _⟩
theorem refSignal_any (n : Int) (w : World) : Calls Try.prog 17 #[.int .i64 n] w fun e w' => e = .returned (.agg (sigV n)) ∧ Below w.heap.size w w' := by
  have K0 : Hid (Blk (w.alloc (.cells zeroA 34)) w.heap.size 34 zeroA) := Blk.new _ _ _
  have B0 : Hid (Below w.heap.size w (w.alloc (.cells zeroA 34))) := (Below.refl _ _).alloc (Nat.le_refl _) _
  unfold sigV
  cases hN : isN n with
  | false =>
    have HN := Lib.hid hN
    clear hN
    rw [if_neg (by decide)]
    go_enter Try.func17, Try.ntmps17
    go_wp2_with (first
      | (go_at_call 20; refine (refIs_any n _).mono ?_; rintro e w' ⟨rfl, rfl⟩; rw [HN.out])
      | fail)
    go_returns
    exact ⟨by simp [go_sem, zeroA], by first | exact B0.out | (simpa using B0.out)⟩
  | true =>
    have HN := Lib.hid hN
    have hu := u32w_in hN
    have hr := isN_ok hN
    clear hN
    rw [if_pos rfl]
    have HS := Lib.hid (seg_any 0 6 n (w.alloc (.cells zeroA 34)) (by omega) (by omega) (by omega))
    go_enter Try.func17, Try.ntmps17
    go_wp2_with (first
      | (go_at_call 20; refine (refIs_any n _).mono ?_; rintro e w' ⟨rfl, rfl⟩; rw [HN.out])
      | fail)
    refine HS.out.mono ?_; rintro e w2 ⟨rfl, h1⟩
    have K2 : Hid (Blk w2 w.heap.size 34 zeroA) := K0.out.below h1 K0.out.lt
    have B2 : Hid (Below w.heap.size w w2) := B0.out.trans (h1.mono B0.out.size)
    obtain ⟨cs, hcs⟩ : ∃ cs, adrV 0 6 n = cs := ⟨_, rfl⟩
    have hi34 : Hid ((Try.prog.info? 34).map (·.size) = some cs.size) := by unfold Hid; rw [← hcs]; exact size34
    have hold : Hid (zeroA.size = cs.size) := by unfold Hid; rw [← hcs]; rfl
    have hall : Hid (cs.all (·.oneCell') = true) := by unfold Hid; rw [← hcs]; unfold adrV; simpa using u8s_one
    have HCS := Lib.hid hcs
    rw [hcs]
    clear h1 hcs
    go_wp2_with (first
      | (refine wpList_store_row rfl 34 _ _ rfl w.heap.size cs rfl rfl 34 zeroA K2.out hi34.out hold.out hall.out ?_)
      | fail)
    refine bodyPost_ret (results_cell_row rfl _ _ w.heap.size 34 cs _ _ rfl (setRow_heap w2 _ zeroA cs 34 (0, 0) K2.out) Try.underlying34 rfl hi34.out) rfl ?_
    exact ⟨by rw [← HCS.out], below_setRow B2.out (Nat.le_refl _) _⟩
end Go.Proofs.Ytikceomnkkpljaa
