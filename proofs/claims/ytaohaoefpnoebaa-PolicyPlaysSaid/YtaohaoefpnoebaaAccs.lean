/-
  Contracts of the document's Accept. No condition beyond the policy's own bounds.
-/
import Derived.Test.YtaohaoefpnoebaaRefs
namespace Go.Proofs.Ytaohaoefpnoebaa
open Go.ChangeShapes Go.WideShapes Go.ChangeAt Go.RowKit
set_option linter.unusedVariables false

theorem acc_3 (l : Int) (w : World) (p : Pol) :
    Calls Try.prog 8 #[.agg (rcells 3 p), .int .i64 l] w fun e w' => e = .returned (.tuple #[.agg (rcells 3 p), .bool true]) ∧ Below w.heap.size w w' := by
  unfold rcells
  go_enter Try.func8, Try.ntmps8
  go_wp2
  go_region
  go_wp2
  go_returns
  refine ⟨by simp [go_sem], ?_⟩
  repeat' (first | (with_reducible exact Below.refl _ _) | (with_reducible refine Below.drew ?_) | (refine Below.alloc ?_ (by simp) _) | (refine Below.setCell ?_ (by simp) _))
theorem acc_1 (l : Int) (w : World) (p : Pol) :
    Calls Try.prog 8 #[.agg (rcells 1 p), .int .i64 l] w fun e w' => e = .returned (.tuple #[.agg (rcells 1 p), .bool (decide (l < p.a))]) ∧ Below w.heap.size w w' := by
  unfold rcells
  go_enter Try.func8, Try.ntmps8
  go_wp2
  go_returns
  simp [go_sem]
  exact ((Below.refl _ _).alloc (Nat.le_refl _) _).alloc (by simp) _

set_option maxHeartbeats 3200000 in
theorem acc_2 (l : Int) (w : World) (p : Pol) (ho : p.ok) :
    Calls Try.prog 8 #[.agg (rcells 2 p), .int .i64 l] w fun e w' => e = .returned (.tuple #[.agg (rcells 2 (move p l)), .bool (decide (l < p.a))]) ∧ Below w.heap.size w w' := by
  obtain ⟨a, s, x, y⟩ := p
  obtain ⟨o1, o2, o3, o4, o5, o6, o7, o8⟩ := ho
  simp only at o1 o2 o3 o4 o5 o6 o7 o8
  unfold rcells
  by_cases c1 : l < a
  · have d1 : decide (l < a) = true := by simpa using c1
    have ht : took ⟨a, s, x, y⟩ l = y + 1 := by unfold took; rw [if_pos c1]
    have HT := Lib.hid ht
    clear ht
    by_cases c2 : x + 1 < s
    · have HL : Hid (move ⟨a, s, x, y⟩ l = ⟨a, s, x + 1, y + 1⟩) := by unfold Hid; unfold move; rw [if_pos c2, HT.out]
      clear c1
      go_enter Try.func8, Try.ntmps8
      go_wp2
      go_returns
      refine ⟨by rw [HL.out]; try simp [go_sem, d1], ?_⟩
      repeat' (first | (with_reducible exact Below.refl _ _) | (with_reducible refine Below.drew ?_) | (refine Below.alloc ?_ (by simp) _) | (refine Below.setCell ?_ (by simp) _))
    · by_cases c3 : s < 2 * (y + 1)
      · by_cases c4 : 0 < a
        · have HL : Hid (move ⟨a, s, x, y⟩ l = ⟨a - 1, s, 0, 0⟩) := by unfold Hid; unfold move; rw [if_neg c2, HT.out]; simp only [lim]; rw [if_pos ⟨c3, c4⟩]
          clear c1
          go_enter Try.func8, Try.ntmps8
          go_wp2
          go_returns
          refine ⟨by rw [HL.out]; try simp [go_sem, d1], ?_⟩
          repeat' (first | (with_reducible exact Below.refl _ _) | (with_reducible refine Below.drew ?_) | (refine Below.alloc ?_ (by simp) _) | (refine Below.setCell ?_ (by simp) _))
        · have HL : Hid (move ⟨a, s, x, y⟩ l = ⟨a, s, 0, 0⟩) := by unfold Hid; unfold move; rw [if_neg c2, HT.out]; simp only [lim]; rw [if_neg (by omega), if_neg (by omega)]
          clear c1
          go_enter Try.func8, Try.ntmps8
          go_wp2
          go_returns
          refine ⟨by rw [HL.out]; try simp [go_sem, d1], ?_⟩
          repeat' (first | (with_reducible exact Below.refl _ _) | (with_reducible refine Below.drew ?_) | (refine Below.alloc ?_ (by simp) _) | (refine Below.setCell ?_ (by simp) _))
      · by_cases c5 : 2 * (y + 1) < s
        · by_cases c4 : a < 100
          · have HL : Hid (move ⟨a, s, x, y⟩ l = ⟨a + 1, s, 0, 0⟩) := by unfold Hid; unfold move; rw [if_neg c2, HT.out]; simp only [lim]; rw [if_neg (by omega), if_pos ⟨c5, c4⟩]
            clear c1
            go_enter Try.func8, Try.ntmps8
            go_wp2
            go_returns
            refine ⟨by rw [HL.out]; try simp [go_sem, d1], ?_⟩
            repeat' (first | (with_reducible exact Below.refl _ _) | (with_reducible refine Below.drew ?_) | (refine Below.alloc ?_ (by simp) _) | (refine Below.setCell ?_ (by simp) _))
          · have HL : Hid (move ⟨a, s, x, y⟩ l = ⟨a, s, 0, 0⟩) := by unfold Hid; unfold move; rw [if_neg c2, HT.out]; simp only [lim]; rw [if_neg (by omega), if_neg (by omega)]
            clear c1
            go_enter Try.func8, Try.ntmps8
            go_wp2
            go_returns
            refine ⟨by rw [HL.out]; try simp [go_sem, d1], ?_⟩
            repeat' (first | (with_reducible exact Below.refl _ _) | (with_reducible refine Below.drew ?_) | (refine Below.alloc ?_ (by simp) _) | (refine Below.setCell ?_ (by simp) _))
        · have HL : Hid (move ⟨a, s, x, y⟩ l = ⟨a, s, 0, 0⟩) := by unfold Hid; unfold move; rw [if_neg c2, HT.out]; simp only [lim]; rw [if_neg (by omega), if_neg (by omega)]
          clear c1
          go_enter Try.func8, Try.ntmps8
          go_wp2
          go_returns
          refine ⟨by rw [HL.out]; try simp [go_sem, d1], ?_⟩
          repeat' (first | (with_reducible exact Below.refl _ _) | (with_reducible refine Below.drew ?_) | (refine Below.alloc ?_ (by simp) _) | (refine Below.setCell ?_ (by simp) _))
  · have d1 : decide (l < a) = false := by simpa using c1
    have ht : took ⟨a, s, x, y⟩ l = y := by unfold took; rw [if_neg c1]
    have HT := Lib.hid ht
    clear ht
    by_cases c2 : x + 1 < s
    · have HL : Hid (move ⟨a, s, x, y⟩ l = ⟨a, s, x + 1, y⟩) := by unfold Hid; unfold move; rw [if_pos c2, HT.out]
      clear c1
      go_enter Try.func8, Try.ntmps8
      go_wp2
      go_returns
      refine ⟨by rw [HL.out]; try simp [go_sem, d1], ?_⟩
      repeat' (first | (with_reducible exact Below.refl _ _) | (with_reducible refine Below.drew ?_) | (refine Below.alloc ?_ (by simp) _) | (refine Below.setCell ?_ (by simp) _))
    · by_cases c3 : s < 2 * (y)
      · by_cases c4 : 0 < a
        · have HL : Hid (move ⟨a, s, x, y⟩ l = ⟨a - 1, s, 0, 0⟩) := by unfold Hid; unfold move; rw [if_neg c2, HT.out]; simp only [lim]; rw [if_pos ⟨c3, c4⟩]
          clear c1
          go_enter Try.func8, Try.ntmps8
          go_wp2
          go_returns
          refine ⟨by rw [HL.out]; try simp [go_sem, d1], ?_⟩
          repeat' (first | (with_reducible exact Below.refl _ _) | (with_reducible refine Below.drew ?_) | (refine Below.alloc ?_ (by simp) _) | (refine Below.setCell ?_ (by simp) _))
        · have HL : Hid (move ⟨a, s, x, y⟩ l = ⟨a, s, 0, 0⟩) := by unfold Hid; unfold move; rw [if_neg c2, HT.out]; simp only [lim]; rw [if_neg (by omega), if_neg (by omega)]
          clear c1
          go_enter Try.func8, Try.ntmps8
          go_wp2
          go_returns
          refine ⟨by rw [HL.out]; try simp [go_sem, d1], ?_⟩
          repeat' (first | (with_reducible exact Below.refl _ _) | (with_reducible refine Below.drew ?_) | (refine Below.alloc ?_ (by simp) _) | (refine Below.setCell ?_ (by simp) _))
      · by_cases c5 : 2 * (y) < s
        · by_cases c4 : a < 100
          · have HL : Hid (move ⟨a, s, x, y⟩ l = ⟨a + 1, s, 0, 0⟩) := by unfold Hid; unfold move; rw [if_neg c2, HT.out]; simp only [lim]; rw [if_neg (by omega), if_pos ⟨c5, c4⟩]
            clear c1
            go_enter Try.func8, Try.ntmps8
            go_wp2
            go_returns
            refine ⟨by rw [HL.out]; try simp [go_sem, d1], ?_⟩
            repeat' (first | (with_reducible exact Below.refl _ _) | (with_reducible refine Below.drew ?_) | (refine Below.alloc ?_ (by simp) _) | (refine Below.setCell ?_ (by simp) _))
          · have HL : Hid (move ⟨a, s, x, y⟩ l = ⟨a, s, 0, 0⟩) := by unfold Hid; unfold move; rw [if_neg c2, HT.out]; simp only [lim]; rw [if_neg (by omega), if_neg (by omega)]
            clear c1
            go_enter Try.func8, Try.ntmps8
            go_wp2
            go_returns
            refine ⟨by rw [HL.out]; try simp [go_sem, d1], ?_⟩
            repeat' (first | (with_reducible exact Below.refl _ _) | (with_reducible refine Below.drew ?_) | (refine Below.alloc ?_ (by simp) _) | (refine Below.setCell ?_ (by simp) _))
        · have HL : Hid (move ⟨a, s, x, y⟩ l = ⟨a, s, 0, 0⟩) := by unfold Hid; unfold move; rw [if_neg c2, HT.out]; simp only [lim]; rw [if_neg (by omega), if_neg (by omega)]
          clear c1
          go_enter Try.func8, Try.ntmps8
          go_wp2
          go_returns
          refine ⟨by rw [HL.out]; try simp [go_sem, d1], ?_⟩
          repeat' (first | (with_reducible exact Below.refl _ _) | (with_reducible refine Below.drew ?_) | (refine Below.alloc ?_ (by simp) _) | (refine Below.setCell ?_ (by simp) _))

/-- The document's answer to one question, whatever kind the policy is of. -/
theorem refAccept_any (k l : Int) (w : World) (p : Pol) (hk : k = 1 ∨ k = 2 ∨ k = 3) (ho : p.ok) :
    Calls Try.prog 8 #[.agg (rcells k p), .int .i64 l] w fun e w' => e = .returned (.tuple #[.agg (rcells k (step k p l)), .bool (says k p l)]) ∧ Below w.heap.size w w' := by
  rcases hk with rfl | rfl | rfl
  · exact acc_1 l w p
  · exact acc_2 l w p ho
  · exact acc_3 l w p
end Go.Proofs.Ytaohaoefpnoebaa
