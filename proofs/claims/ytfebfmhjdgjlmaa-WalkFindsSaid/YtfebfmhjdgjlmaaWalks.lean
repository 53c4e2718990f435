/-
  Contracts of the functions that the walk over headers calls. No condition beyond what a slice that came in is.
-/
import Derived.Test.YtfebfmhjdgjlmaaMem
import Derived.Test.YtfebfmhjdgjlmaaPlain
import Derived.WalkSpells
import Derived.WalkLawsBesides
namespace Go.Proofs.Ytfebfmhjdgjlmaa
open Go.ChangeShapes Go.WideShapes Go.ChangeAt Go.RowKit
set_option linter.unusedVariables false
theorem ext_any (k : Int) (w : World) : Calls Try.prog 12 #[.int .i64 k] w fun e w' => e = .returned (.bool (extB k)) ∧ w = w' := by
  rcases (show k = 0 ∨ k = 43 ∨ k = 60 ∨ (¬ k = 0 ∧ ¬ k = 43 ∧ ¬ k = 60) by omega) with rfl | rfl | rfl | ⟨h1, h2, h3⟩
  all_goals
    go_enter Try.func12, Try.ntmps12
    go_wp2
    go_ret
    exact ⟨ret_bool (by simp [extB, *]), rfl⟩
theorem may_any (k m : Int) (w : World) : Calls Try.prog 11 #[.int .i64 k, .int .i64 m] w fun e w' => e = .returned (.int .i64 (mayE k m)) ∧ w = w' := by
  rcases (show k = 44 ∨ (¬ k = 44 ∧ k = 0 ∧ 0 < m) ∨ (¬ k = 44 ∧ ¬ k = 0) ∨ (k = 0 ∧ m ≤ 0) by omega) with rfl | ⟨h1, rfl, h3⟩ | ⟨h1, h2⟩ | ⟨rfl, h2⟩
  · go_enter Try.func11, Try.ntmps11
    go_wp2_with (go_at_call 12; refine (ext_any _ _).mono ?_; rintro e w' ⟨rfl, rfl⟩)
    go_ret
    exact ⟨ret_int (by simp [mayE]), rfl⟩
  · go_enter Try.func11, Try.ntmps11
    go_wp2_with (go_at_call 12; refine (ext_any _ _).mono ?_; rintro e w' ⟨rfl, rfl⟩)
    go_ret
    exact ⟨ret_int (by simp [mayE, h3]), rfl⟩
  · rcases hx : extB k with _ | _ <;> rcases (show m < 8 ∨ 8 ≤ m by omega) with h8 | h8
    all_goals
      have HX : Hid (mayE k m = mayE k m) := rfl
      have hr : mayE k m = if extB k = true ∧ 8 ≤ m then 8 else 0 := by unfold mayE; rw [if_neg h1, if_neg (by omega)]
      rw [hx] at hr
      have HR := Lib.hid hr
      clear hr HX
      go_enter Try.func11, Try.ntmps11
      go_wp2_with (go_at_call 12; refine (ext_any _ _).mono ?_; rintro e w' ⟨rfl, rfl⟩)
      go_ret
      exact ⟨ret_int (by rw [HR.out]; simp; try omega), rfl⟩
  · have hx : extB 0 = true := by decide
    have hr : mayE 0 m = 0 := by simp [mayE, hx]; omega
    have HR := Lib.hid hr
    clear hr
    go_enter Try.func11, Try.ntmps11
    go_wp2_with (go_at_call 12; refine (ext_any _ _).mono ?_; rintro e w' ⟨rfl, rfl⟩)
    go_ret
    exact ⟨ret_int (by rw [HR.out]), rfl⟩


theorem byte_of {w : World} {a : Option Addr} {len cap : Nat} {zs : List Int} (hr : IsRow .u8 w a len cap zs) (i : Nat) : 0 ≤ zs.getD i 0 ∧ zs.getD i 0 ≤ 255 := by
  by_cases h : i < zs.length
  · rw [List.getD_eq_getElem?_getD, List.getElem?_eq_getElem h]
    exact wf_u8 (hr.wf _ (List.getElem_mem h))
  · rw [List.getD_eq_getElem?_getD, List.getElem?_eq_none (by omega)]; simp

/-- How long the extension header at a place is, and what comes behind it. -/
theorem measure_any (a : Option Addr) (len cap : Nat) (zs : List Int) (at_ : Nat) (w : World) (hr : IsRow .u8 w a len cap zs) (ha : at_ ≤ len) (hl : len ≤ 140737488351232) :
    Calls Try.prog 13 #[.slice a len cap, .int .i64 at_] w fun e w' => e = .returned (if len < at_ + 2 ∨ (len : Int) - at_ < 8 * zs.getD (at_ + 1) 0 + 8 then .tuple #[.int .i64 0, .int .i64 0, .int .i64 3] else .tuple #[.int .i64 (8 * zs.getD (at_ + 1) 0 + 8), .int .i64 (zs.getD at_ 0), .int .i64 0]) ∧ ∃ n, w' = w.drewN n := by
  obtain ⟨hlc, hcm, hzl⟩ := hr.len_le
  by_cases h1 : len < at_ + 2
  · rw [if_pos (Or.inl h1)]
    clear hr
    go_enter Try.func13, Try.ntmps13
    go_wp2
    go_ret3
    exact ⟨rfl, 0, rfl⟩
  · obtain ⟨g, o, rfl, hb, hcell⟩ := hr.at_ (by omega)
    have x0 := hcell at_ (by omega)
    have x1 := hcell (at_ + 1) (by omega)
    have b0 := byte_of hr at_
    have b1 := byte_of hr (at_ + 1)
    clear hcell hr
    generalize zs.getD at_ 0 = z0 at *
    generalize zs.getD (at_ + 1) 0 = z1 at *
    by_cases h2 : (len : Int) - at_ < 8 * z1 + 8
    · rw [if_pos (Or.inr h2)]
      go_enter Try.func13, Try.ntmps13
      go_wp2
      go_ret3
      exact ⟨rfl, 0, rfl⟩
    · rw [if_neg (by omega)]
      have q1 : 8 * (z1 + 1) = 8 * z1 + 8 := by omega
      go_enter Try.func13, Try.ntmps13
      go_wp2
      go_quiet (fail)
      go_wp2
      go_ret3
      exact ⟨rfl, _, rfl⟩
theorem may_val (k m r : Int) (w : World) (h : mayE k m = r) : Calls Try.prog 11 #[.int .i64 k, .int .i64 m] w fun e w' => e = .returned (.int .i64 r) ∧ w = w' := by
  subst h; exact may_any k m w
theorem ext_val (k : Int) (b : Bool) (w : World) (h : extB k = b) : Calls Try.prog 12 #[.int .i64 k] w fun e w' => e = .returned (.bool b) ∧ w = w' := by
  subst h; exact ext_any k w
theorem measure_short (a : Option Addr) (len cap : Nat) (zs : List Int) (at_ : Nat) (w : World) (hr : IsRow .u8 w a len cap zs) (ha : at_ ≤ len) (hl : len ≤ 140737488351232) (h : len < at_ + 2 ∨ (len : Int) - at_ < 8 * zs.getD (at_ + 1) 0 + 8) :
    Calls Try.prog 13 #[.slice a len cap, .int .i64 at_] w fun e w' => e = .returned (.tuple #[.int .i64 0, .int .i64 0, .int .i64 3]) ∧ ∃ n, w' = w.drewN n := by
  have := measure_any a len cap zs at_ w hr ha hl
  rwa [if_pos h] at this
theorem measure_long (a : Option Addr) (len cap : Nat) (zs : List Int) (at_ : Nat) (z0 z1 : Int) (w : World) (hr : IsRow .u8 w a len cap zs) (ha : at_ ≤ len) (hl : len ≤ 140737488351232) (e0 : zs.getD at_ 0 = z0) (e1 : zs.getD (at_ + 1) 0 = z1) (h : ¬ (len < at_ + 2 ∨ (len : Int) - at_ < 8 * zs.getD (at_ + 1) 0 + 8)) :
    Calls Try.prog 13 #[.slice a len cap, .int .i64 at_] w fun e w' => e = .returned (.tuple #[.int .i64 (8 * z1 + 8), .int .i64 z0, .int .i64 0]) ∧ ∃ n, w' = w.drewN n := by
  have := measure_any a len cap zs at_ w hr ha hl
  rw [if_neg h] at this
  subst e0 e1
  exact this
/-- A slice that came in reads in a later world as it did. -/
theorem IsRow.later {k : IntKind} {w v : World} {a : Option Addr} {len cap : Nat} {zs : List Int} (h : IsRow k w a len cap zs) (hb : Below w.heap.size w v) : IsRow k v a len cap zs := by
  rcases h with h | ⟨x, rfl, hl, hm, hz, hcell, hw⟩
  · exact Or.inl h
  · exact Or.inr ⟨x, rfl, hl, hm, hz, fun i hi => (hb.cell (block_lt_of_cell (hcell i hi))).trans (hcell i hi), hw⟩
end Go.Proofs.Ytfebfmhjdgjlmaa
