/-
  The walks of slices.Index, slices.Contains, slices.Reverse at nil. No condition beyond a length that is no machine's.
-/
import Derived.Test.YtikceomnkkpljaaBack
namespace Go.Proofs.Ytikceomnkkpljaa
open Go.ChangeShapes Go.WideShapes Go.ChangeAt Go.RowKit
set_option linter.unusedVariables false
set_option linter.unusedSimpArgs false

theorem rev_nil (w : World) : Calls Try.prog 28 #[.slice none 0 0] w fun e w' => (∃ r, e = .returned r) ∧ w = w' := by
  go_enter Try.func28, Try.ntmps28
  go_wp2_with fail
  go_loopg [2, 3] 1 (fun gk s2 s3 wr => s2 = .int .i64 0 ∧ s3 = .int .i64 (-1) ∧ gk = 1 ∧ wr = w)
  case atStart => exact ⟨rfl, rfl, rfl, rfl⟩
  case round =>
    obtain ⟨rfl, rfl, rfl, rfl⟩ := hrel
    go_wp2_with fail
    go_end0
    exact ⟨⟨_, rfl⟩, rfl⟩
theorem index_any (A : Option Addr) (n c : Nat) (l : List Int) (x : Int) (w : World) (h : NRow w A l) (hn : l.length = n) (hm : n ≤ 1000000) :
    Calls Try.prog 35 #[.slice A n c, .int .i64 x] w fun e w' => (∃ k : Int, e = .returned (.int .i64 k) ∧ decide (0 ≤ k) = decide (x ∈ l)) ∧ w = w' := by
  have HH := Lib.hid h
  have HL := Lib.hid hn
  clear h hn
  go_enter Try.func35, Try.ntmps35
  go_wp2_with fail
  go_loopg [5, 8] (n + 1) (fun gk s5 s8 wr => ∃ i : Nat, s8 = .int .i64 i ∧ gk + i = n + 1 ∧ i ≤ n ∧ wr = w ∧ Hid (¬ x ∈ l.take i))
  case atStart => exact ⟨0, rfl, by omega, by omega, rfl, by unfold Hid; simp⟩
  case round =>
    obtain ⟨i, rfl, hgi, hin, rfl, HX⟩ := hrel
    by_cases hlt : i < n
    · have hil : i < l.length := by have := HL.out; omega
      obtain ⟨g, o, rfl, hg, hc⟩ := HH.out (by omega)
      have x0 := hc i hil
      have htk : l.take (i + 1) = l.take i ++ [l[i]] := by rw [List.take_add_one, List.getElem?_eq_getElem hil]; rfl
      have hmem := List.getElem_mem hil
      have HT := Lib.hid htk
      have HMM := Lib.hid hmem
      obtain ⟨y, hy⟩ : ∃ y, l[i] = y := ⟨_, rfl⟩
      rw [hy] at x0 HT HMM
      have b1 : (0 : Int) ≤ (i : Int) := Int.natCast_nonneg i
      have b2 : (i : Int) < (n : Int) := Int.ofNat_lt.2 hlt
      clear hc htk hmem hy
      by_cases he : x = y
      · have t : (x == y) = true := by simpa using he
        have HE := Lib.hid he
        clear he
        go_wp2_with fail
        go_ret
        refine ⟨⟨(i : Int), rfl, ?_⟩, rfl⟩
        have := HMM.out
        rw [← HE.out] at this
        simp [this]
      · have t : (x == y) = false := by simpa using he
        have HE := Lib.hid he
        clear he
        go_wp2_with fail
        go_roundg (gk - 1)
        case rel =>
          refine ⟨i + 1, by go_num, by omega, by omega, rfl, ?_⟩
          rw [HT.out]
          unfold Hid
          rw [List.mem_append, List.mem_singleton]
          rintro (h | h)
          · exact HX.out h
          · exact HE.out h
        case measure => omega
    · obtain rfl : i = n := by omega
      have hX := HX.out
      rw [List.take_of_length_le (by rw [HL.out]; exact Nat.le_refl _)] at hX
      have HXX := Lib.hid hX
      clear hX HX
      go_wp2_with fail
      go_ret
      exact ⟨⟨-1, rfl, by simpa using HXX.out⟩, rfl⟩
theorem contains_any (A : Option Addr) (n c : Nat) (l : List Int) (x : Int) (w : World) (h : NRow w A l) (hn : l.length = n) (hm : n ≤ 1000000) :
    Calls Try.prog 29 #[.slice A n c, .int .i64 x] w fun e w' => e = .returned (.bool (decide (x ∈ l))) ∧ w = w' := by
  have HI := Lib.hid (index_any A n c l x w h hn hm)
  go_enter Try.func29, Try.ntmps29
  go_wp2_with fail
  refine HI.out.mono ?_; rintro e w' ⟨⟨k, rfl, hk⟩, rfl⟩
  have HK := Lib.hid hk
  clear hk
  go_wp2_with fail
  go_ret
  exact ⟨ret_bool HK.out, rfl⟩
end Go.Proofs.Ytikceomnkkpljaa
