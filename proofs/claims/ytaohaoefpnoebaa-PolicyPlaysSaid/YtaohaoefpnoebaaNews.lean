/-
  Contracts of New, of the document's New, and of the document's Accept. No condition beyond the policy's own bounds.
-/
import Derived.Test.YtaohaoefpnoebaaWalks
namespace Go.Proofs.Ytaohaoefpnoebaa
open Go.ChangeShapes Go.WideShapes Go.ChangeAt Go.RowKit
set_option linter.unusedVariables false

theorem clamp_way (lo hi n : Int) (h : lo ≤ hi) : (n < lo ∧ clamp lo hi n = lo) ∨ ((lo ≤ n ∧ n ≤ hi) ∧ clamp lo hi n = n) ∨ (hi < n ∧ clamp lo hi n = hi) := by
  unfold clamp
  (repeat' split) <;> omega
set_option maxHeartbeats 1600000 in
/-- A new policy, of a kind that there is. -/
theorem new_any (k l s : Int) (w : World) (hk : k = 1 ∨ k = 2 ∨ k = 3) :
    Calls Try.prog 6 #[.int .i64 k, .int .i64 l, .int .i64 s] w fun e w' => e = .returned (.pointer (some ⟨w.heap.size, 0, none⟩)) ∧ w' = w.alloc (.cells (cells (fnOf k) (fresh l s)) 38) := by
  rcases clamp_way 0 100 l (by decide) with ⟨hl, hc⟩ | ⟨⟨hl0, hl1⟩, hc⟩ | ⟨hl, hc⟩ <;>
    rcases clamp_way 1 100 s (by decide) with ⟨hs, hd⟩ | ⟨⟨hs0, hs1⟩, hd⟩ | ⟨hs, hd⟩ <;>
    rcases hk with rfl | rfl | rfl
  all_goals
    have HC := Lib.hid hc
    have HD := Lib.hid hd
    clear hc hd
    go_enter Try.func6, Try.ntmps6
    go_wp2
    go_ret
    refine ⟨rfl, ?_⟩
    unfold fresh
    rw [HC.out, HD.out]
    rfl
set_option maxHeartbeats 1600000 in
theorem new_none (k l s : Int) (w : World) (hk : ¬ (k = 1 ∨ k = 2 ∨ k = 3)) :
    Calls Try.prog 6 #[.int .i64 k, .int .i64 l, .int .i64 s] w fun e w' => e = .returned (.pointer none) ∧ Below w.heap.size w w' := by
  have k1 : ¬ k = 1 := fun h => hk (Or.inl h)
  have k2 : ¬ k = 2 := fun h => hk (Or.inr (Or.inl h))
  have k3 : ¬ k = 3 := fun h => hk (Or.inr (Or.inr h))
  clear hk
  rcases (show l < 0 ∨ (0 ≤ l ∧ l ≤ 100) ∨ 100 < l by omega) with hl | ⟨hl0, hl1⟩ | hl <;>
    rcases (show s < 1 ∨ (1 ≤ s ∧ s ≤ 100) ∨ 100 < s by omega) with hs | ⟨hs0, hs1⟩ | hs
  all_goals
    go_enter Try.func6, Try.ntmps6
    go_wp2
    go_ret
    exact ⟨rfl, (Below.refl _ _).alloc (Nat.le_refl _) _⟩
end Go.Proofs.Ytaohaoefpnoebaa
