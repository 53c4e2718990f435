/-
  The walk of lives. No condition.
-/
import Derived.Test.YthcfgchlaagfkaaRems
namespace Go.Proofs.Ythcfgchlaagfkaa
open Go.ChangeShapes Go.WideShapes Go.ChangeAt Go.RowKit
set_option linter.unusedVariables false
set_option linter.unusedSimpArgs false

theorem heap_head {l : List It} (h : IsHeap l) (hp : 0 < l.length) : gx l 0 ∈ l ∧ ∀ x ∈ l, leI (gx l 0) x := by
  refine ⟨by rw [gx_at l 0 hp]; exact List.getElem_mem hp, fun x hx => ?_⟩
  obtain ⟨k, hk, rfl⟩ := List.mem_iff_getElem.1 hx
  have := heap_min h k hk
  rwa [gx_at l k hk] at this
theorem QIs.own {w : World} {H B : Nat} {v : Value} {l : List It} {sq : Int} (h : QIs w H B v l sq) (hH : B ≤ H) : ∀ k, OwnQ H v k → B ≤ k := by
  rintro k (rfl | e)
  · exact hH
  · exact (h.at_.row.lt k e).1
/-- What was turned lies above. -/
theorem QIs.turn {w0 w w' : World} {H B : Nat} {v : Value} {l : List It} {sq : Int} (h : QIs w H B v l sq) (hH : B ≤ H) (hb : Below B w0 w) (hc : Chg (OwnQ H v) w w') : Below B w0 w' :=
  below_chg hb hc h.at_.le (fun k hk ho => by have := h.own hH k ho; omega)
theorem perm2 {l : List It} {a b : It} (h : l.Perm [a, b]) (hh : IsHeap l) (hab : ¬ leI a b) : gx l 0 = b := by
  have hl : l.length = 2 := h.length_eq
  obtain ⟨h1, h2⟩ := heap_head hh (by omega)
  have h3 := h.mem_iff.1 h1
  have h4 := h2 b (h.mem_iff.2 (by simp))
  simp at h3
  rcases h3 with e | e
  · rw [e] at h4; exact absurd h4 hab
  · exact e
theorem perm_left {l : List It} {a b : It} (h : (l ++ [b]).Perm [a, b]) : l = [a] := by
  have h2 : (l ++ [b]).Perm ([a] ++ [b]) := h
  exact List.perm_singleton.1 ((List.perm_append_right_iff [b]).1 h2)
set_option maxHeartbeats 3200000 in
theorem lives_any (w : World) : Calls Try.prog 16 #[] w fun e w' => e = .returned (.bool true) ∧ Below w.heap.size w w' := by
  have HN := Lib.hid (new_any w)
  go_enter Try.func16, Try.ntmps16
  go_wp2_with fail
  refine HN.out.mono ?_; rintro e w1 ⟨N, rfl, hq, hN, hb⟩
  have B1 := Lib.hid hb
  have HA := Lib.hid (add_q 5 1 hq (by simp) (by omega) (by omega))
  have HQ := Lib.hid hq
  clear hq hb
  go_wp2_with fail
  refine HA.out.mono ?_; rintro e w2 ⟨⟨r, rfl⟩, v2, l2, hq2, hp2, hc2⟩
  obtain rfl : l2 = [⟨5, 1, 0 + 1⟩] := List.perm_singleton.1 hp2
  have B2 := Lib.hid (HQ.out.turn hN B1.out hc2)
  have HA2 := Lib.hid (add_q 3 2 hq2 (by simp) (by omega) (by omega))
  have HQ2 := Lib.hid hq2
  clear hq2 hp2 hc2 HA
  go_wp2_with fail
  refine HA2.out.mono ?_; rintro e w3 ⟨⟨r, rfl⟩, v3, l3, hq3, hp3, hc3⟩
  have hg3 := perm2 hp3 hq3.heap (by rw [leI_iff]; simp)
  have hl3 : l3.length = 1 + 1 := hp3.length_eq
  have B3 := Lib.hid (HQ2.out.turn hN B2.out hc3)
  have HN1 := Lib.hid (next_yes 4 hq3 hl3 (by omega) (by rw [hg3]; decide))
  rw [hg3] at HN1
  have HQ3 := Lib.hid hq3
  have HP3 := Lib.hid hp3
  clear hq3 hp3 hc3 hg3 hl3 HA2
  go_wp2_with fail
  refine HN1.out.mono ?_; rintro e w4 ⟨rfl, v4, l4, hq4, hl4, hp4, hc4⟩
  obtain rfl := perm_left (hp4.trans HP3.out)
  have B4 := Lib.hid (HQ3.out.turn hN B3.out hc4)
  have HN2 := Lib.hid (next_no 4 hq4 (by simp) (by simp) (by decide))
  have HQ4 := Lib.hid hq4
  clear hq4 hl4 hp4 hc4 HN1
  go_wp2_with fail
  refine HN2.out.mono ?_; rintro e w5 ⟨rfl, h5⟩
  have hq5 := HQ4.out.later h5
  have B5 := Lib.hid (B4.out.trans (h5.mono B4.out.size))
  have HL := Lib.hid (len_q hq5)
  have HR := Lib.hid (remove_q 1 hq5 (n := 1) rfl (by omega) (by omega))
  have HQ5 := Lib.hid hq5
  clear hq5 h5 HN2
  go_wp2_with fail
  refine HL.out.mono ?_; rintro e w6 ⟨rfl, rfl⟩
  go_wp2_with fail
  refine HR.out.mono ?_; rintro e w7 ⟨rfl, v7, l7, hq7, hp7, hc7⟩
  obtain rfl : l7 = [] := List.perm_nil.1 hp7
  have B7 := Lib.hid (HQ5.out.turn hN B5.out hc7)
  have HL2 := Lib.hid (len_q hq7)
  clear hq7 hp7 hc7
  go_wp2_with fail
  refine HL2.out.mono ?_; rintro e w8 ⟨rfl, rfl⟩
  go_wp2_with fail
  go_returns
  exact ⟨rfl, B7.out⟩
end Go.Proofs.Ythcfgchlaagfkaa
