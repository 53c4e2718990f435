/-
  The walk of PhaseNever: whatever flags come, it returns true and leaves the world as it was. No condition beyond what a slice that came in is.
-/
import Derived.Test.YtammeabkodddkaaBase
import Derived.Test.YtammeabkodddkaaNames
import Derived.Outline
namespace Go.Proofs.Ytammeabkodddkaa
open Go.ChangeShapes Go.WideShapes Go.ChangeAt Go.RowKit
set_option linter.unusedVariables false

theorem next_val (x f k : Int) (w : World) (hk : nxt x f = k) : Calls Try.prog 5 #[.int .i64 x, .int .i64 f] w fun e w' => e = .returned (.int .i64 k) ∧ w = w' :=
  (next_any x f w).mono fun _ _ ⟨h, hw⟩ => ⟨h.trans (ret_int hk), hw⟩
theorem nxt_way (s f : Int) : nxt s f = 0 ∨ nxt s f = 1 ∨ nxt s f = 2 ∨ nxt s f = 3 ∨ nxt s f = 4 := by
  have := kn_cases s
  unfold nxt
  (repeat' split) <;> omega
theorem nxt_closed (s f : Int) (h : s = 3 ∨ s = 4) : nxt s f = 3 ∨ nxt s f = 4 := by
  unfold nxt
  rcases h with rfl | rfl <;> simp [kn] <;> (repeat' split) <;> simp
theorem nxt_gone (f : Int) : nxt 4 f = 4 := by unfold nxt; simp [kn]

set_option maxHeartbeats 1600000 in
theorem never_any (s : Int) (a : Option Addr) (len cap : Nat) (zs : List Int) (w : World) (hr : IsRow .i64 w a len cap zs) :
    Calls Try.prog 4 #[.int .i64 s, .slice a len cap] w fun e w' => e = .returned (.bool true) ∧ w = w' := by
  obtain ⟨hlc, hcm, hzl⟩ := hr.len_le
  unfold maxLen at hcm
  have HR := Lib.hid hr
  clear hr
  go_enter Try.func4, Try.ntmps4
  go_wp2_with fail
  go_loop [0, 5, 6, 7] (fun s c g i => ∃ (k : Nat) (z : Int) (c0 g0 : Bool), s = .int .i64 z ∧ c = .bool c0 ∧ g = .bool g0 ∧ i = .int .i64 k ∧ k ≤ len ∧ k ≤ 60 ∧ (c0 = true → z = 3 ∨ z = 4) ∧ (g0 = true → z = 4))
    (fun _ _ _ i => 60 - (intOf i).toNat)
  case atStart => exact ⟨0, s, false, false, rfl, rfl, rfl, rfl, by omega, by omega, by simp, by simp⟩
  case round =>
    obtain ⟨k, z, c0, g0, rfl, rfl, rfl, rfl, hk, hk6, hc, hg⟩ := hrel
    by_cases hlt : k < len
    · by_cases h60 : k < 60
      · obtain ⟨b, o, rfl, hb, hcell⟩ := HR.out.at_ (by omega)
        have hcx := hcell k (by omega)
        clear hcell
        have HC : Hid (c0 = true → nxt z (zs.getD k 0) = 3 ∨ nxt z (zs.getD k 0) = 4) := fun h => nxt_closed _ _ (hc h)
        have HG : Hid (g0 = true → nxt z (zs.getD k 0) = 4) := fun h => by rw [hg h]; exact nxt_gone _
        clear hc hg
        rcases nxt_way z (zs.getD k 0) with h | h | h | h | h
        all_goals
          have H := Lib.hid h
          clear h
          rcases c0 with _ | _ <;> rcases g0 with _ | _
        all_goals first
          | (exfalso; have := HC.out rfl; have := H.out; omega)
          | (exfalso; have := HG.out rfl; have := H.out; omega)
          | (go_wp2_with (go_at_call 5; refine (next_val _ _ _ _ H.out).mono ?_; rintro e w' ⟨rfl, rfl⟩)
             go_round
             case rel => exact ⟨k + 1, _, _, _, rfl, rfl, rfl, by go_num, by omega, by omega, by simp, by simp⟩
             case measure => simp [intOf]; omega)
      · go_wp2_with (go_at_call 11; refine (lives_any _).mono ?_; rintro e w' ⟨rfl, rfl⟩)
        go_ret
        exact ⟨rfl, rfl⟩
    · go_wp2_with (go_at_call 11; refine (lives_any _).mono ?_; rintro e w' ⟨rfl, rfl⟩)
      go_ret
      exact ⟨rfl, rfl⟩

theorem phaseNever.walk (s : Int) (a : Option Addr) (len cap : Nat) (zs : List Int) (w : World) (_ : (Lit.int .i64 s).wf = true) (hr : IsRow .i64 w a len cap zs) :
    Calls Try.prog 4 #[.int .i64 s, .slice a len cap] w fun e w' => e = .returned (.bool true) ∧ Below w.heap.size w w' :=
  (never_any s a len cap zs w hr).mono fun _ _ ⟨h, hw⟩ => ⟨h, hw ▸ Below.refl _ _⟩
end Go.Proofs.Ytammeabkodddkaa
