/-
  Contracts of the document's New and Accept. No condition beyond the policy's own bounds.
-/
import Derived.Test.YtaohaoefpnoebaaNews
import Derived.ChangeAlike
namespace Go.Proofs.Ytaohaoefpnoebaa
open Go.ChangeShapes Go.WideShapes Go.ChangeAt Go.RowKit
set_option linter.unusedVariables false

/-- The document's policy. -/
def rcells (k : Int) (p : Pol) : Array Value := #[.int .i64 k, .int .i64 p.a, .int .i64 p.s, .int .i64 p.x, .int .i64 p.y]
def rnew (k l s : Int) : Array Value := if k < 1 ∨ 3 < k then #[.int .i64 0, .int .i64 0, .int .i64 0, .int .i64 0, .int .i64 0] else rcells k (fresh l s)

theorem clamp_way2 (lo hi n : Int) (h : lo < hi) : (n ≤ lo ∧ clamp lo hi n = lo) ∨ ((lo < n ∧ n < hi) ∧ clamp lo hi n = n) ∨ (hi ≤ n ∧ clamp lo hi n = hi) := by
  unfold clamp
  (repeat' split) <;> omega
set_option maxHeartbeats 1600000 in
theorem refNew_any (k l s : Int) (w : World) (hk : k = 1 ∨ k = 2 ∨ k = 3) :
    Calls Try.prog 7 #[.int .i64 k, .int .i64 l, .int .i64 s] w fun e w' => e = .returned (.agg (rcells k (fresh l s))) ∧ w' = w.alloc (.cells (rcells k (fresh l s)) 27) := by
  have k1 : 1 ≤ k ∧ k ≤ 3 := by omega
  clear hk
  rcases clamp_way2 0 100 l (by decide) with ⟨hl, hc⟩ | ⟨⟨hl0, hl1⟩, hc⟩ | ⟨hl, hc⟩ <;>
    rcases clamp_way2 1 100 s (by decide) with ⟨hs, hd⟩ | ⟨⟨hs0, hs1⟩, hd⟩ | ⟨hs, hd⟩
  all_goals
    have HC := Lib.hid hc
    have HD := Lib.hid hd
    clear hc hd
    go_enter Try.func7, Try.ntmps7
    go_wp2
    go_returns
    unfold rcells fresh
    simp [go_sem, HC.out, HD.out]
theorem refNew_none (k l s : Int) (w : World) (hk : ¬ (k = 1 ∨ k = 2 ∨ k = 3)) :
    Calls Try.prog 7 #[.int .i64 k, .int .i64 l, .int .i64 s] w fun e w' => e = .returned (.agg #[.int .i64 0, .int .i64 0, .int .i64 0, .int .i64 0, .int .i64 0]) ∧ w' = w.alloc (.cells #[.int .i64 0, .int .i64 0, .int .i64 0, .int .i64 0, .int .i64 0] 27) := by
  rcases (show k < 1 ∨ 3 < k by omega) with h | h
  all_goals
    clear hk
    go_enter Try.func7, Try.ntmps7
    go_wp2
    go_returns
    simp [go_sem]
end Go.Proofs.Ytaohaoefpnoebaa
