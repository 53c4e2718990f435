/-
  The walk of pick.Two. No condition beyond a length that is no machine's.
-/
import Derived.Test.YtblnlmhkaacciaaFirst
namespace Go.Proofs.Ytblnlmhkaacciaa
open Go.ChangeShapes Go.WideShapes Go.ChangeAt Go.RowKit
set_option linter.unusedVariables false
set_option linter.unusedSimpArgs false

/-- What first hands back, at every length. -/
def firstL (t : List Int) (u : Nat) (o : Int) : Int := if t.length = 0 then 0 else fromL t (u % t.length) o
theorem first_of (A : Option Addr) (n c u : Nat) (o : Int) (t : List Int) (w : World) (h : NRow w A t) (hn : t.length = n) (hm : n ≤ 17592186044416) (hu : u < 18446744073709551616) :
    Calls Try.prog 28 #[.slice A n c, .int .u64 (u : Int), .int .i64 o] w fun e w' => e = .returned (.int .i64 (firstL t u o)) ∧ Below w.heap.size w w' := by
  by_cases h0 : n = 0
  · subst h0
    refine (first_nil A c u o w).mono ?_
    rintro e w' ⟨rfl, hb⟩
    exact ⟨by unfold firstL; rw [if_pos hn], hb⟩
  · refine (first_any A n c u (u % n) o t w h hn hm hu (by omega) rfl).mono ?_
    rintro e w' ⟨rfl, hb⟩
    exact ⟨by unfold firstL; rw [if_neg (by omega), hn], hb⟩
theorem twoL_first (t : List Int) (u : Nat) : twoL t u = if firstL t u 0 = 0 then (0, 0) else (firstL t u 0, firstL t (u / 4294967296) (firstL t u 0)) := by
  unfold twoL firstL
  by_cases h : t.length = 0
  · simp [h]
  · simp only [if_neg h]
set_option maxHeartbeats 800000 in
theorem two_any (A : Option Addr) (n c u : Nat) (t : List Int) (w : World) (h : NRow w A t) (hn : t.length = n) (hm : n ≤ 17592186044416) (hu : u < 18446744073709551616) :
    Calls Try.prog 23 #[.slice A n c, .int .u64 (u : Int)] w fun e w' => e = .returned (.tuple #[.int .i64 (twoL t u).1, .int .i64 (twoL t u).2]) ∧ Below w.heap.size w w' := by
  have C1 := first_of A n c u 0 t w h hn hm hu
  obtain ⟨a, ha⟩ : ∃ a, firstL t u 0 = a := ⟨_, rfl⟩
  have C2 := fun w2 h2 => first_of A n c (u / 4294967296) a t w2 h2 hn hm (by omega)
  obtain ⟨b, hb⟩ : ∃ b, firstL t (u / 4294967296) a = b := ⟨_, rfl⟩
  have e0 : twoL t u = if a = 0 then (0, 0) else (a, b) := by rw [twoL_first, ha, hb]
  rw [ha] at C1
  rw [hb] at C2
  rw [e0]
  have HC1 := Lib.hid C1
  have HC2 := Lib.hid C2
  have HH := Lib.hid h
  have hsh : (u : Int) / 4294967296 = ((u / 4294967296 : Nat) : Int) := rfl
  clear C1 C2 e0 ha hb hn h
  obtain ⟨v, hv⟩ : ∃ v, u / 4294967296 = v := ⟨_, rfl⟩
  rw [hv] at HC2 hsh
  go_enter Try.func23, Try.ntmps23
  go_wp2_with fail
  refine HC1.out.mono ?_; rintro e w1 ⟨rfl, h1⟩
  have H1 := Lib.hid h1
  clear h1
  by_cases ha0 : a = 0
  · subst ha0
    go_wp2_with fail
    go_returns
    exact ⟨rfl, H1.out⟩
  · have t1 : (a == 0) = false := by simpa using ha0
    have HA0 := Lib.hid ha0
    have HC3 := Lib.hid (HC2.out w1 (HH.out.later H1.out))
    clear ha0
    go_wp2_with fail
    refine HC3.out.mono ?_; rintro e w2 ⟨rfl, h2⟩
    have H2 := Lib.hid h2
    clear h2
    go_wp2_with fail
    go_returns
    exact ⟨rfl, H1.out.trans (H2.out.mono H1.out.size)⟩
end Go.Proofs.Ytblnlmhkaacciaa
