/-
  The walk of WalkTells. No condition beyond what a slice that came in is, and its reach.
-/
import Derived.Test.YtfebfmhjdgjlmaaLives
namespace Go.Proofs.Ytfebfmhjdgjlmaa
open Go.ChangeShapes Go.WideShapes Go.ChangeAt Go.RowKit
set_option linter.unusedVariables false

theorem ref0 (a : Option Addr) (len cap : Nat) (zs : List Int) (hl : len ≤ 140737488351232) (k : Int) (at_ : Nat) (w : World) (hr : IsRow .u8 w a len cap zs) (ha : at_ ≤ len) :
    Calls Try.prog 7 #[.slice a len cap, .int .i64 k, .int .i64 at_, .int .i64 0] w (Post 32 w (wk (fun i => zs.getD i 0) len 9 k at_ 0)) :=
  ref_any a len cap zs hl 9 k at_ 0 w (by omega) (by omega) hr ha

theorem tells_bad (a : Option Addr) (len cap : Nat) (k at_ : Int) (w : World) (hl : len ≤ 140737488351232) (h : at_ < 0 ∨ (len : Int) < at_) :
    Calls Try.prog 3 #[.slice a len cap, .int .i64 k, .int .i64 at_] w fun e w' => e = .returned (.bool true) ∧ Below w.heap.size w w' := by
  have H := Lib.hid h
  clear h
  go_enter Try.func3, Try.ntmps3
  go_wp2_with (first
    | (go_at_call 6; refine (walk_bad a len cap k at_ _ hl H.out).mono ?_; rintro e w' ⟨rfl, rfl⟩)
    | (go_at_call 7; refine (ref_bad a len cap k 0 at_ _ hl H.out).mono ?_; rintro e w' ⟨rfl, rfl⟩))
  refine wp_loop_rounds 1 ?_; rw [rounds_succ]
  go_wp2_with (go_at_call 8; refine (lives_any _).mono ?_; rintro e w' ⟨rfl, hl⟩; have HL := Lib.hid hl; clear hl)
  go_ret
  exact ⟨rfl, HL.out⟩

set_option maxHeartbeats 800000 in
theorem tells_good (a : Option Addr) (len cap : Nat) (zs : List Int) (k : Int) (at_ : Nat) (w : World) (hr : IsRow .u8 w a len cap zs) (ha : at_ ≤ len) (hl : len ≤ 140737488351232) :
    Calls Try.prog 3 #[.slice a len cap, .int .i64 k, .int .i64 at_] w fun e w' => e = .returned (.bool true) ∧ Below w.heap.size w w' := by
  have HR := Lib.hid hr
  have hlen := wk_len (fun i => zs.getD i 0) len 9 k at_ 0
  have HP6 := Lib.hid (walk_any a len cap zs k at_ w hr ha hl)
  have HP7 : Hid (∀ W : World, IsRow .u8 W a len cap zs → Calls Try.prog 7 #[.slice a len cap, .int .i64 k, .int .i64 at_, .int .i64 0] W (Post 32 W (wk (fun i => zs.getD i 0) len 9 k at_ 0))) := fun W hW => ref0 a len cap zs hl k at_ W hW ha
  generalize wk (fun i => zs.getD i 0) len 9 k at_ 0 = r at *
  obtain ⟨ps, er⟩ := r
  simp only at hlen
  clear hr
  go_enter Try.func3, Try.ntmps3
  go_wp2_with fail
  refine HP6.out.mono ?_
  rintro e w1 ⟨A, c, rfl, hO, hB⟩
  have HR1 := Lib.hid (HdRow.of_own hO rfl)
  have HB1 := Lib.hid hB
  clear hO hB HP6
  go_wp2_with fail
  refine (HP7.out _ (HR.out.later HB1.out)).mono ?_
  rintro e w2 ⟨A2, c2, rfl, hO, hB⟩
  have HR2 := Lib.hid (HdRow.of_own hO rfl)
  have HR3 := Lib.hid (HR1.out.later hB)
  have HB2 := Lib.hid (HB1.out.trans (hB.mono HB1.out.size))
  clear hO hB HP7 HR1
  simp only at HR2 HR3
  go_wp2_with fail
  go_loopw [11] (fun i wr => ∃ j : Nat, i = .int .i64 j ∧ j ≤ ps.length ∧ Hid (Below w2.heap.size w2 wr)) (fun i _ => ps.length - (intOf i).toNat)
  case atStart => exact ⟨0, rfl, by omega, Below.refl _ _⟩
  case round =>
    obtain ⟨j, rfl, hj, HI⟩ := hrel
    by_cases hlt : j < ps.length
    · obtain ⟨g, o, rfl, hg, hc⟩ := (HR3.out.later HI.out).2 (by omega)
      obtain ⟨c1, c2', c3⟩ := hc j hlt
      obtain ⟨g2, o2, rfl, hg2, hc2⟩ := (HR2.out.later HI.out).2 (by omega)
      obtain ⟨d1, d2, d3⟩ := hc2 j hlt
      clear hc hc2
      generalize ps.getD j (0, 0, 0) = p at *
      have t1 : (p.1 != p.1) = false := by simp
      have t2 : (p.2.1 != p.2.1) = false := by simp
      have t3 : (p.2.2 != p.2.2) = false := by simp
      go_wp2_with fail
      go_quiet (fail)
      go_wp2
      go_roundw
      case rel => exact ⟨j + 1, by go_num, by omega, below_draws HI.out _⟩
      case measure => simp [intOf]; omega
    · go_wp2_with (go_at_call 8; refine (lives_any _).mono ?_; rintro e w' ⟨rfl, hl⟩; have HL := Lib.hid hl; clear hl)
      go_ret
      exact ⟨rfl, (HB2.out.trans (HI.out.mono HB2.out.size)).trans (HL.out.mono (Nat.le_trans HB2.out.size HI.out.size))⟩

theorem walkTells.walk (a : Option Addr) (len cap : Nat) (zs : List Int) (k at_ : Int) (w : World) (hr : IsRow .u8 w a len cap zs) (hl1 : len * 1 ≤ 140737488351232) (_ : (Lit.int .i64 k).wf = true) (_ : (Lit.int .i64 at_).wf = true) :
    Calls Try.prog 3 #[.slice a len cap, .int .i64 k, .int .i64 at_] w fun e w' => e = .returned (.bool true) ∧ Below w.heap.size w w' := by
  have hl : len ≤ 140737488351232 := by omega
  by_cases h : at_ < 0 ∨ (len : Int) < at_
  · exact tells_bad a len cap k at_ w hl h
  · obtain ⟨n, rfl⟩ := Int.eq_ofNat_of_zero_le (show 0 ≤ at_ by omega)
    exact tells_good a len cap zs k n w hr (by omega) hl
end Go.Proofs.Ytfebfmhjdgjlmaa
