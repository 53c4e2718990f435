/-
  The walk of HuntSyns. No condition beyond what a slice that came in is.
-/
import Derived.Test.YtikceomnkkpljaaLives
import Derived.Test.YtikceomnkkpljaaRowsIn
namespace Go.Proofs.Ytikceomnkkpljaa
open Go.ChangeShapes Go.WideShapes Go.ChangeAt Go.RowKit
set_option linter.unusedVariables false
set_option linter.unusedSimpArgs false

theorem prow_of {w : World} {A : Option Addr} {n : Nat} {R : Nat → Nat → Int} (h : IRow .i64 2 w A n R) : ∃ ps : List (Int × Int), ps.length = n ∧ PRow w A ps ∧ ∀ p ∈ ps, wfi p.1 ∧ wfi p.2 := by
  refine ⟨(List.range n).map (fun i => (R i 0, R i 1)), by simp, fun hp => ?_, fun p hp => ?_⟩
  · obtain ⟨g, o, e, hg, hc⟩ := h (by simpa using hp)
    refine ⟨g, o, e, hg, fun i hi => ?_⟩
    have hi' : i < n := by simpa using hi
    have h0 := (hc i hi' 0 (by omega)).1
    have h1 := (hc i hi' 1 (by omega)).1
    simp only [List.getElem_map, List.getElem_range]
    exact ⟨h0, h1⟩
  · obtain ⟨i, hi, rfl⟩ := List.mem_map.1 hp
    have hi' : i < n := List.mem_range.1 hi
    obtain ⟨g, o, e, hg, hc⟩ := h (by omega)
    exact ⟨(hc i hi' 0 (by omega)).2, (hc i hi' 1 (by omega)).2⟩
theorem syn_both (A : Option Addr) (n c : Nat) (ps : List (Int × Int)) (x : Int) (w : World) (h : PRow w A ps) (hn : ps.length = n) (hm : n ≤ 1000000) (hc : n ≤ c) (hc2 : c ≤ 9223372036854775807) (hw : ∀ p ∈ ps, wfi p.1 ∧ wfi p.2) :
    (Calls Try.prog 10 #[.slice A n c, .int .i64 x] w fun e w' => ∃ v, e = .returned v ∧ OwnA w' w.heap.size v (synL ps (u32w x)) ∧ Below w.heap.size w w') ∧
    (Calls Try.prog 11 #[.slice A n c, .int .i64 x] w fun e w' => ∃ v, e = .returned v ∧ OwnA w' w.heap.size v (synL ps (u32w x)) ∧ Below w.heap.size w w') := by
  by_cases h0 : (newest ps).1 = 0
  · have e : synL ps (u32w x) = [] := by unfold synL; simp only; rw [if_pos h0]
    rw [e]
    refine ⟨(syn_none A n c ps x w h hn hm h0).mono ?_, (refSyn_none A n c ps x w h hn hm h0).mono ?_⟩
    · rintro e w' ⟨rfl, hb⟩; exact ⟨_, rfl, OwnA.nil _ _, hb⟩
    · rintro e w' ⟨rfl, hb⟩; exact ⟨_, rfl, OwnA.nil _ _, hb⟩
  · exact ⟨syn_some A n c ps x w h hn hm hc hc2 hw h0, refSyn_some A n c ps x w h hn hm hc hc2 h0⟩
theorem synL_few (ps : List (Int × Int)) (a : Int) : (synL ps a).length ≤ 8 := by
  unfold synL
  simp only
  split
  · simp
  · have h1 := nodesL_len (flatN (lastL ps).dropLast)
    rw [flatN_len] at h1
    have h2 := lastL_few ps
    rw [List.length_append, segL_len]
    simp at h1
    split <;> simp <;> omega
theorem syns_walk (A : Option Addr) (n c : Nat) (ps : List (Int × Int)) (x : Int) (w : World) (h : PRow w A ps) (hn : ps.length = n) (hc : n ≤ c) (hc2 : c ≤ 9223372036854775807) (hw : ∀ p ∈ ps, wfi p.1 ∧ wfi p.2) :
    Calls Try.prog 3 #[.slice A n c, .int .i64 x] w fun e w' => e = .returned (.bool true) ∧ Below w.heap.size w w' := by
  by_cases h40 : 40 < n
  · have t : decide ((40 : Int) < (n : Int)) = true := by simp; omega
    go_enter Try.func3, Try.ntmps3
    go_wp2_with fail
    refine (lives_any _).mono ?_; rintro e w1 ⟨rfl, h1⟩
    have H1 := Lib.hid h1
    clear h1
    go_wp2_with fail
    go_ret
    exact ⟨rfl, H1.out⟩
  · have t : decide ((40 : Int) < (n : Int)) = false := by simp; omega
    have HP := Lib.hid h
    have HL := Lib.hid hn
    have HW := Lib.hid hw
    have HN := Lib.hid (newest_any A n c ps w h hn (by omega))
    obtain ⟨f, s, hfs⟩ : ∃ f s, newest ps = (f, s) := ⟨_, _, rfl⟩
    have HFS := Lib.hid hfs
    rw [hfs] at HN
    have HRN : Hid (∀ W, Below w.heap.size w W → Calls Try.prog 8 #[.slice A n c] W fun e w' => e = .returned (.tuple #[.int .i64 f, .int .i64 s]) ∧ Below W.heap.size W w') := fun W hW => by
      have := refNewest_any A n c ps W (HP.out.later hW) HL.out (by omega)
      rw [hfs] at this
      exact this
    have HSB : Hid (∀ W, Below w.heap.size w W → _) := fun W hW => syn_both A n c ps x W (HP.out.later hW) HL.out (by omega) hc hc2 HW.out
    have hfew := synL_few ps (u32w x)
    obtain ⟨l, hl⟩ : ∃ l, synL ps (u32w x) = l := ⟨_, rfl⟩
    rw [hl] at HSB hfew
    clear h hn hw hfs hl
    go_enter Try.func3, Try.ntmps3
    go_wp2_with fail
    refine HN.out.mono ?_; rintro e w1 ⟨rfl, h1⟩
    have B1 := Lib.hid h1
    clear h1
    go_wp2_with fail
    refine (HRN.out w1 B1.out).mono ?_; rintro e w2 ⟨rfl, h2⟩
    have B2 := Lib.hid (B1.out.trans (h2.mono B1.out.size))
    clear h2
    go_wp2_with fail
    refine (HSB.out w2 B2.out).1.mono ?_; rintro e w3 ⟨v3, rfl, o3, h3⟩
    obtain ⟨A3, c3, rfl⟩ := o3.form
    have R3 := Lib.hid o3.ar
    have B3 := Lib.hid (B2.out.trans (h3.mono B2.out.size))
    clear o3 h3
    go_wp2_with fail
    refine (HSB.out w3 B3.out).2.mono ?_; rintro e w4 ⟨v4, rfl, o4, h4⟩
    obtain ⟨A4, c4, rfl⟩ := o4.form
    have R4 := Lib.hid o4.ar
    have R3' := Lib.hid (R3.out.later h4)
    have B4 := Lib.hid (B3.out.trans (h4.mono B3.out.size))
    clear o4 h4
    go_wp2_with fail
    refine (same_any A3 A4 l.length c3 c4 l w4 R3'.out R4.out rfl (by omega)).mono ?_; rintro e w5 ⟨rfl, h5⟩
    have B5 := Lib.hid (B4.out.trans (h5.mono B4.out.size))
    clear h5
    go_wp2_with fail
    refine (lives_any _).mono ?_; rintro e w6 ⟨rfl, h6⟩
    have B6 := Lib.hid (B5.out.trans (h6.mono B5.out.size))
    clear h6
    go_wp2_with fail
    go_ret
    exact ⟨rfl, B6.out⟩
end Go.Proofs.Ytikceomnkkpljaa
