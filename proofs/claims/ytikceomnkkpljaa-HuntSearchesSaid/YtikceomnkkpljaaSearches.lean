/-
  The walk of HuntSearches. No condition beyond what a slice that came in is.
-/
import Derived.Test.YtikceomnkkpljaaRefSearch
namespace Go.Proofs.Ytikceomnkkpljaa
open Go.ChangeShapes Go.WideShapes Go.ChangeAt Go.RowKit
set_option linter.unusedVariables false
set_option linter.unusedSimpArgs false

theorem sig_eq (n : Int) (W : World) : (Op.equalIn 10000 34 (.agg (sigV n)) (.agg (sigV n))).run Try.prog W = .ok true W := by
  unfold sigV
  split
  · have := eq34 (adrL 0 6 n) (adrL 0 6 n) rfl rfl W
    rw [decide_eq_true rfl] at this
    exact this
  · have := eq34 (List.replicate 16 0) (List.replicate 16 0) rfl rfl W
    rw [decide_eq_true rfl] at this
    exact this
theorem nrow_of {w : World} {A : Option Addr} {n c : Nat} {zs : List Int} (h : IsRow .i64 w A n c zs) : (zs.take n).length = n ∧ NRow w A (zs.take n) := by
  obtain ⟨h1, h2, h3⟩ := h.len_le
  have hl : (zs.take n).length = n := by rw [List.length_take]; omega
  refine ⟨hl, fun hp => ?_⟩
  rw [hl] at hp
  obtain ⟨g, o, e, hg, hc⟩ := h.at_ hp
  refine ⟨g, o, e, hg, fun i hi => ?_⟩
  have hin : i < n := by rw [hl] at hi; exact hi
  rw [hc i (by omega)]
  have hz : i < zs.length := by omega
  rw [List.getD_eq_getElem?_getD, List.getElem?_eq_getElem hz, List.getElem_take]
  rfl
theorem searchL_few (ps : List (Int × Int)) (al : List Int) : (searchL ps al).length ≤ 8 := by
  unfold searchL
  rw [segL_len]
  have h0 := List.length_filter_le (fun x => decide (x ∈ al)) (nodesL (flatN (lastL ps).reverse))
  have h1 := nodesL_len (flatN (lastL ps).reverse)
  rw [flatN_len, List.length_reverse] at h1
  have h2 := lastL_few ps
  omega
theorem steerL_few (n : Int) : (steerL n).length ≤ 1 := by unfold steerL; split <;> simp
set_option maxHeartbeats 1600000 in
theorem searches_walk (A A2 : Option Addr) (n c n2 c2 : Nat) (ps : List (Int × Int)) (al : List Int) (x : Int) (w : World) (h : PRow w A ps) (hn : ps.length = n) (hc : n ≤ c) (hc2 : c ≤ 9223372036854775807) (hw : ∀ p ∈ ps, wfi p.1 ∧ wfi p.2)
    (h2 : NRow w A2 al) (hn2 : al.length = n2) :
    Calls Try.prog 4 #[.slice A n c, .slice A2 n2 c2, .int .i64 x] w fun e w' => e = .returned (.bool true) ∧ Below w.heap.size w w' := by
  by_cases h40 : 40 < n
  · have t : decide ((40 : Int) < (n : Int)) = true := by simp; omega
    go_enter Try.func4, Try.ntmps4
    go_wp2_with fail
    refine (lives_any _).mono ?_; rintro e w1 ⟨rfl, h1⟩
    have H1 := Lib.hid h1
    clear h1
    go_wp2_with fail
    go_ret
    exact ⟨rfl, H1.out⟩
  · have t : decide ((40 : Int) < (n : Int)) = false := by simp; omega
    by_cases h41 : 40 < n2
    · have t2 : decide ((40 : Int) < (n2 : Int)) = true := by simp; omega
      go_enter Try.func4, Try.ntmps4
      go_wp2_with fail
      refine (lives_any _).mono ?_; rintro e w1 ⟨rfl, h1⟩
      have H1 := Lib.hid h1
      clear h1
      go_wp2_with fail
      go_ret
      exact ⟨rfl, H1.out⟩
    · have t2 : decide ((40 : Int) < (n2 : Int)) = false := by simp; omega
      have HS1 := Lib.hid (search_any A A2 n c n2 c2 ps al w h hn (by omega) hc hc2 hw h2 hn2 (by omega))
      have HS2 : Hid (∀ W, Below w.heap.size w W → _) := fun W hW => refSearch_any A A2 n c n2 c2 ps al W (h.later hW) hn (by omega) hc hc2 (h2.later hW) hn2 (by omega)
      have hfew := searchL_few ps al
      obtain ⟨l, hl⟩ : ∃ l, searchL ps al = l := ⟨_, rfl⟩
      rw [hl] at HS1 HS2 hfew
      have hst := steerL_few x
      obtain ⟨sl, hsl⟩ : ∃ sl, steerL x = sl := ⟨_, rfl⟩
      have HT1 : Hid (∀ W, _) := fun W => steer_any x W
      have HT2 : Hid (∀ W, _) := fun W => refSteer_any x W
      rw [hsl] at HT1 HT2 hst
      have HE := Lib.hid (sig_eq x)
      obtain ⟨sg, hsg⟩ : ∃ sg, sigV x = sg := ⟨_, rfl⟩
      have HG1 : Hid (∀ W, _) := fun W => signal_any x W
      have HG2 : Hid (∀ W, _) := fun W => refSignal_any x W
      rw [hsg] at HE HG1 HG2
      clear h hn hw h2 hn2 hl hsl hsg
      go_enter Try.func4, Try.ntmps4
      go_wp2_with fail
      refine HS1.out.mono ?_; rintro e w1 ⟨v1, rfl, o1, h1⟩
      obtain ⟨A3, c3, rfl⟩ := o1.form
      have R1 := Lib.hid o1.ar
      have B1 := Lib.hid h1
      clear o1 h1
      go_wp2_with fail
      refine (HS2.out w1 B1.out).mono ?_; rintro e w2 ⟨v2, rfl, o2, h2⟩
      obtain ⟨A4, c4, rfl⟩ := o2.form
      have R2 := Lib.hid o2.ar
      have R1' := Lib.hid (R1.out.later h2)
      have B2 := Lib.hid (B1.out.trans (h2.mono B1.out.size))
      clear o2 h2
      go_wp2_with fail
      refine (same_any A3 A4 l.length c3 c4 l w2 R1'.out R2.out rfl (by omega)).mono ?_; rintro e w3 ⟨rfl, h3⟩
      have B3 := Lib.hid (B2.out.trans (h3.mono B2.out.size))
      clear h3
      go_wp2_with fail
      refine (HT1.out w3).mono ?_; rintro e w4 ⟨v4, rfl, o4, h4⟩
      obtain ⟨A5, c5, rfl⟩ := o4.form
      have R4 := Lib.hid o4.ar
      have B4 := Lib.hid (B3.out.trans (h4.mono B3.out.size))
      clear o4 h4
      go_wp2_with fail
      refine (HT2.out w4).mono ?_; rintro e w5 ⟨v5, rfl, o5, h5⟩
      obtain ⟨A6, c6, rfl⟩ := o5.form
      have R5 := Lib.hid o5.ar
      have R4' := Lib.hid (R4.out.later h5)
      have B5 := Lib.hid (B4.out.trans (h5.mono B4.out.size))
      clear o5 h5
      go_wp2_with fail
      refine (same_any A5 A6 sl.length c5 c6 sl w5 R4'.out R5.out rfl (by omega)).mono ?_; rintro e w6 ⟨rfl, h6⟩
      have B6 := Lib.hid (B5.out.trans (h6.mono B5.out.size))
      clear h6
      go_wp2_with fail
      refine (HG1.out w6).mono ?_; rintro e w7 ⟨rfl, h7⟩
      have B7 := Lib.hid (B6.out.trans (h7.mono B6.out.size))
      clear h7
      go_wp2_with fail
      refine (HG2.out w7).mono ?_; rintro e w8 ⟨rfl, h8⟩
      have B8 := Lib.hid (B7.out.trans (h8.mono B7.out.size))
      have hq := HE.out w8
      clear h8
      go_wp2_with fail
      refine (lives_any _).mono ?_; rintro e w9 ⟨rfl, h9⟩
      have B9 := Lib.hid (B8.out.trans (h9.mono B8.out.size))
      clear h9
      go_wp2_with fail
      go_ret
      exact ⟨rfl, B9.out⟩
end Go.Proofs.Ytikceomnkkpljaa
