/-
  The plain law of a policy: what one question does to it. No program in sight. No condition.
-/
import Derived.Test.YtaohaoefpnoebaaBase
namespace Go.Proofs.Ytaohaoefpnoebaa
open Go.ChangeShapes Go.WideShapes Go.ChangeAt Go.RowKit
set_option linter.unusedVariables false

/-- A number's place between two ends. -/
def clamp (lo hi n : Int) : Int := if n < lo then lo else if hi < n then hi else n
theorem clamp_lo (n : Int) : 0 ≤ clamp 0 100 n ∧ clamp 0 100 n ≤ 100 := by unfold clamp; (repeat' split) <;> omega
theorem clamp_span (n : Int) : 1 ≤ clamp 1 100 n ∧ clamp 1 100 n ≤ 100 := by unfold clamp; (repeat' split) <;> omega

/-- The cells of a policy: the limit, the span, how many were asked, how many taken. -/
structure Pol where
  a : Int
  s : Int
  x : Int
  y : Int
def Pol.ok (p : Pol) : Prop := 0 ≤ p.a ∧ p.a ≤ 100 ∧ 1 ≤ p.s ∧ p.s ≤ 100 ∧ 0 ≤ p.x ∧ p.x < p.s ∧ 0 ≤ p.y ∧ p.y ≤ p.x
def fresh (l s : Int) : Pol := ⟨clamp 0 100 l, clamp 1 100 s, 0, 0⟩
theorem fresh_ok (l s : Int) : (fresh l s).ok := by
  have := clamp_lo l; have := clamp_span s
  simp only [Pol.ok, fresh]; omega
def took (p : Pol) (l : Int) : Int := if l < p.a then p.y + 1 else p.y
def lim (a s y : Int) : Int := if s < 2 * y ∧ 0 < a then a - 1 else if 2 * y < s ∧ a < 100 then a + 1 else a
def move (p : Pol) (l : Int) : Pol := if p.x + 1 < p.s then ⟨p.a, p.s, p.x + 1, took p l⟩ else ⟨lim p.a p.s (took p l), p.s, 0, 0⟩
theorem move_ok {p : Pol} (h : p.ok) (l : Int) : (move p l).ok := by
  obtain ⟨h1, h2, h3, h4, h5, h6, h7, h8⟩ := h
  unfold move
  split
  · simp only [Pol.ok, took]; (repeat' split) <;> omega
  · simp only [Pol.ok, lim]; (repeat' split) <;> omega
/-- Kind 2 moves, the others stay. -/
def step (k : Int) (p : Pol) (l : Int) : Pol := if k = 2 then move p l else p
def says (k : Int) (p : Pol) (l : Int) : Bool := if k = 3 then true else decide (l < p.a)
theorem step_ok {p : Pol} (k : Int) (h : p.ok) (l : Int) : (step k p l).ok := by
  unfold step; split
  · exact move_ok h l
  · exact h
end Go.Proofs.Ytaohaoefpnoebaa
