/-
  The walk of WalkFinds. No condition beyond what a slice that came in is.
-/
import Derived.Test.YtfebfmhjdgjlmaaLives
import Derived.Test.YtfebfmhjdgjlmaaRowsIn
import Derived.Deep.RegionHeld3
namespace Go.Proofs.Ytfebfmhjdgjlmaa
open Go.ChangeShapes Go.WideShapes Go.ChangeAt Go.RowKit
set_option linter.unusedVariables false

/-- The first header of a kind, of those from place m on. -/
def ff (k : Int) (ps : List Hd) (m : Nat) : Int := if fnd k (ps.drop m) = -1 then -1 else fnd k (ps.drop m) + m
theorem ff_end (k : Int) (ps : List Hd) : ff k ps ps.length = -1 := by unfold ff; simp [fnd]
theorem ff_zero (k : Int) (ps : List Hd) : ff k ps 0 = fnd k ps := by unfold ff; simp; intro h; exact h.symm
theorem ff_step (k : Int) (ps : List Hd) (m : Nat) (h : m < ps.length) : ff k ps m = if (ps.getD m (0, 0, 0)).1 = k then (m : Int) else ff k ps (m + 1) := by
  unfold ff
  have hd : ps.drop m = ps.getD m (0, 0, 0) :: ps.drop (m + 1) := by
    rw [List.drop_eq_getElem_cons h, List.getD_eq_getElem?_getD, List.getElem?_eq_getElem h]; rfl
  rw [hd]
  generalize ps.getD m (0, 0, 0) = p
  have hg := fnd_ge k (ps.drop (m + 1))
  by_cases c : p.1 = k
  · simp [fnd, c]
  · simp only [fnd, c, if_false]
    by_cases c2 : fnd k (ps.drop (m + 1)) = -1
    · simp [c2]
    · rw [if_neg c2, if_neg (by omega), if_neg c2]; omega

theorem upper_none (A : Option Addr) (c : Nat) (w : World) : Calls Try.prog 9 #[.slice A 0 c] w fun e w' => e = .returned (.tuple #[.agg #[.int .i64 0, .int .i64 0, .int .i64 0], .bool false]) ∧ Below w.heap.size w w' := by
  go_enter Try.func9, Try.ntmps9
  go_wp2
  go_returns
  refine ⟨by simp [go_sem], ?_⟩
  repeat' (first | (with_reducible exact Below.refl _ _) | (with_reducible refine Below.drew ?_) | (refine Below.alloc ?_ (by simp) _) | (refine Below.setCell ?_ (by simp) _))
theorem upper_some (g o z c : Nat) (a b l : Int) (w : World) (hm : z ≤ 100) (hg : g < w.heap.size) (h0 : w.cell? ⟨g, o + z * 3, none⟩ = some (.int .i64 a)) (h1 : w.cell? ⟨g, o + z * 3 + 1, none⟩ = some (.int .i64 b)) (h2 : w.cell? ⟨g, o + z * 3 + 2, none⟩ = some (.int .i64 l)) :
    Calls Try.prog 9 #[.slice (some ⟨g, o, none⟩) (z + 1) c] w fun e w' => e = .returned (.tuple #[.agg #[.int .i64 a, .int .i64 b, .int .i64 l], .bool true]) ∧ Below w.heap.size w w' := by
  have hne : ((z : Int) + 1 == 0) = false := by simp; omega
  go_enter Try.func9, Try.ntmps9
  go_wp2
  go_returns
  refine ⟨by simp [go_sem], ?_⟩
  repeat' (first | (with_reducible exact Below.refl _ _) | (with_reducible refine Below.drew ?_) | (refine Below.alloc ?_ (by simp) _) | (refine Below.setCell ?_ (by simp) _))

theorem finds_many (A : Option Addr) (n c : Nat) (k : Int) (w : World) (hn : 50 < n) (hm : n ≤ 140737488351232) :
    Calls Try.prog 5 #[.slice A n c, .int .i64 k] w fun e w' => e = .returned (.bool true) ∧ Below w.heap.size w w' := by
  go_enter Try.func5, Try.ntmps5
  go_wp2_with (go_at_call 8; refine (lives_any _).mono ?_; rintro e w' ⟨rfl, hl⟩; have HL := Lib.hid hl; clear hl)
  go_ret
  exact ⟨rfl, HL.out⟩

set_option maxHeartbeats 800000 in
theorem finds_none (A : Option Addr) (c : Nat) (k : Int) (w : World) :
    Calls Try.prog 5 #[.slice A 0 c, .int .i64 k] w fun e w' => e = .returned (.bool true) ∧ Below w.heap.size w w' := by
  have hf : ∀ W : World, Calls Try.prog 10 #[.slice A 0 c, .int .i64 k] W fun e w' => e = .returned (.int .i64 (-1)) ∧ Below W.heap.size W w' := fun W => find_any A 0 c [] k W ⟨rfl, fun h => absurd h (by omega)⟩ (by omega)
  have HF := Lib.hid hf
  clear hf
  go_enter Try.func5, Try.ntmps5
  go_wp2_with fail
  refine wp_loop_rounds 1 ?_; rw [rounds_succ]
  go_wp2_with fail
  refine (upper_none _ _ _).mono ?_; rintro e w1 ⟨rfl, hB⟩
  have HB1 := Lib.hid hB
  clear hB
  go_wp2_with (first
    | (go_at_call 10; refine (HF.out _).mono ?_; rintro e w2 ⟨rfl, hB2⟩; have HB2 := Lib.hid hB2; clear hB2)
    | (go_at_call 8; refine (lives_any _).mono ?_; rintro e w3 ⟨rfl, hl⟩; have HL := Lib.hid hl; clear hl))
  go_ret
  have b1 := HB1.out.alloc HB1.out.size (.cells #[.int .i64 0, .int .i64 0, .int .i64 0] 31)
  have b2 := b1.trans (HB2.out.mono b1.size)
  exact ⟨rfl, b2.trans (HL.out.mono b2.size)⟩

theorem six {W v : World} (b g x : Nat) (q1 q2 q3 : Int) (hb : Below W.heap.size W v) (h : W.cell? ⟨b, 0, none⟩ = some (.int .i64 q1) ∧ W.cell? ⟨b, 1, none⟩ = some (.int .i64 q2) ∧ W.cell? ⟨b, 2, none⟩ = some (.int .i64 q3) ∧ W.cell? ⟨g, x, none⟩ = some (.int .i64 q1) ∧ W.cell? ⟨g, x + 1, none⟩ = some (.int .i64 q2) ∧ W.cell? ⟨g, x + 2, none⟩ = some (.int .i64 q3)) : v.cell? ⟨b, 0, none⟩ = some (.int .i64 q1) ∧ v.cell? ⟨b, 1, none⟩ = some (.int .i64 q2) ∧ v.cell? ⟨b, 2, none⟩ = some (.int .i64 q3) ∧ v.cell? ⟨g, x, none⟩ = some (.int .i64 q1) ∧ v.cell? ⟨g, x + 1, none⟩ = some (.int .i64 q2) ∧ v.cell? ⟨g, x + 2, none⟩ = some (.int .i64 q3) := by
  have f : ∀ {a : Addr} {x : Value}, W.cell? a = some x → v.cell? a = some x := fun {a x} e => (hb.cell (block_lt_of_cell e)).trans e
  exact ⟨f h.1, f h.2.1, f h.2.2.1, f h.2.2.2.1, f h.2.2.2.2.1, f h.2.2.2.2.2⟩
set_option maxHeartbeats 1600000 in
theorem finds_any (A : Option Addr) (n c : Nat) (ps : List Hd) (k : Int) (w : World) (h : HdRow w A n ps) (hn : 0 < n) (hm : n ≤ 50) :
    Calls Try.prog 5 #[.slice A n c, .int .i64 k] w fun e w' => e = .returned (.bool true) ∧ Below w.heap.size w w' := by
  obtain ⟨z, rfl⟩ : ∃ z, n = z + 1 := ⟨n - 1, by omega⟩
  have HH := Lib.hid h
  obtain ⟨g, o, rfl, hg, hc⟩ := h.2 hn
  have hpl := h.1
  obtain ⟨q, hq⟩ : ∃ q, ps.getD z (0, 0, 0) = q := ⟨_, rfl⟩
  obtain ⟨x1, x2, x3⟩ := hc z (by omega)
  rw [hq] at x1 x2 x3
  have HPL := Lib.hid hpl
  have HC := Lib.hid hc
  obtain ⟨q1, q2, q3⟩ := q
  simp only at x1 x2 x3
  clear h hq hpl hc
  have hf : ∀ W : World, Below w.heap.size w W → Calls Try.prog 10 #[.slice (some ⟨g, o, none⟩) (z + 1) c, .int .i64 k] W fun e w' => e = .returned (.int .i64 (fnd k ps)) ∧ Below W.heap.size W w' := fun W hW => find_any _ (z + 1) c ps k W (HH.out.later hW) (by omega)
  have HF := Lib.hid hf
  clear hf
  have hge := fnd_ge k ps
  have t1 : (((z : Int) + 1) == 0) = false := by simp; omega
  go_enter Try.func5, Try.ntmps5
  go_wp2_with fail
  go_loop [5, 6] (fun a i => ∃ m : Nat, i = .int .i64 ((m : Int) - 1) ∧ m ≤ z + 1 ∧ Hid (a = .int .i64 (ff k ps m))) (fun _ i => (intOf i + 1).toNat)
  case atStart => exact ⟨z + 1, by go_num, Nat.le_refl _, by unfold Hid; rw [← HPL.out, ff_end]⟩
  case round =>
    obtain ⟨m, rfl, hmn, HI⟩ := hrel
    by_cases h0 : 0 < m
    · obtain ⟨j, rfl⟩ : ∃ j, m = j + 1 := ⟨m - 1, by omega⟩
      obtain ⟨c1, _, _⟩ := HC.out j (by omega)
      have hs := ff_step k ps j (by rw [HPL.out]; omega)
      obtain ⟨p, hp⟩ : ∃ p, (ps.getD j (0, 0, 0)).1 = p := ⟨_, rfl⟩
      rw [hp] at c1 hs
      have e1 : (((j + 1 : Nat) : Int) - 1) = (j : Int) := by omega
      rw [e1]
      have HS := Lib.hid hs
      clear hp hs e1
      by_cases hk : p = k
      · have t2 : (p == k) = true := by simpa using hk
        have HK := Lib.hid hk
        clear hk
        go_wp2
        go_round
        case rel => exact ⟨j, rfl, by omega, by unfold Hid; rw [HS.out, if_pos HK.out]⟩
        case measure => simp [intOf]
      · have t2 : (p == k) = false := by simpa using hk
        have HK := Lib.hid hk
        clear hk
        go_wp2
        go_round
        case rel => exact ⟨j, rfl, by omega, by unfold Hid; rw [HS.out, if_neg HK.out]; exact HI.out⟩
        case measure => simp [intOf]
    · obtain rfl : m = 0 := by omega
      have ha := HI.out
      rw [ff_zero] at ha
      clear HI
      subst ha
      generalize fnd k ps = r at *
      go_wp2_with fail
      refine (upper_some g o z c q1 q2 q3 _ (by omega) hg x1 x2 x3).mono ?_; rintro e w1 ⟨rfl, hB⟩
      have y1 := (hB.cell (p := ⟨g, _, none⟩) hg).trans x1
      have y2 := (hB.cell (p := ⟨g, _, none⟩) hg).trans x2
      have y3 := (hB.cell (p := ⟨g, _, none⟩) hg).trans x3
      have hg1 : g < w1.heap.size := Nat.lt_of_lt_of_le hg hB.size
      have HB1 := Lib.hid hB
      clear hB x1 x2 x3
      go_wp2_with fail
      have HB0 : Hid (Below w.heap.size w (w1.alloc (.cells #[.int .i64 q1, .int .i64 q2, .int .i64 q3] 31))) := HB1.out.alloc HB1.out.size _
      have i2 : (0 : Int) ≤ (z : Int) := by omega
      have i4 : (z : Int) < (z : Int) + 1 := by omega
      have i3 : ((z : Int)).toNat = z := by omega
      have i1 : IntKind.i64.wrap (z : Int) = (z : Int) := IntWalk.i64_in _ (by omega)
      have i5 : IntKind.i64.wrap ((z : Int) + 1 - 1) = (z : Int) := by rw [IntWalk.i64_in _ (by omega)]; omega
      go_region_held3 (fun w' => w'.cell? ⟨w1.heap.size, 0, none⟩ = some (.int .i64 q1) ∧ w'.cell? ⟨w1.heap.size, 1, none⟩ = some (.int .i64 q2) ∧ w'.cell? ⟨w1.heap.size, 2, none⟩ = some (.int .i64 q3) ∧ w'.cell? ⟨g, o + z * 3, none⟩ = some (.int .i64 q1) ∧ w'.cell? ⟨g, o + z * 3 + 1, none⟩ = some (.int .i64 q2) ∧ w'.cell? ⟨g, o + z * 3 + 2, none⟩ = some (.int .i64 q3)) (go_keep)
        (first
          | (go_at_call 10; refine (HF.out _ HB0.out.drew).mono ?_; rintro e w2 ⟨rfl, hB2⟩; obtain ⟨d1, d2, d3, d4, d5, d6⟩ := six w1.heap.size g (o + z * 3) q1 q2 q3 hB2 (by simp [*]); have HB2 := Lib.hid hB2; clear hB2)
          | (go_at_call 8; refine (lives_any _).mono ?_; rintro e w3 ⟨rfl, hB3⟩; obtain ⟨f1, f2, f3, f4, f5, f6⟩ := six w1.heap.size g (o + z * 3) q1 q2 q3 hB3 (by simp [*]); have HB3 := Lib.hid hB3; clear hB3))
      go_wp2
      go_ret
      have b2 := HB0.out.drew.trans (HB2.out.mono HB0.out.size)
      exact ⟨rfl, b2.trans (HB3.out.mono b2.size)⟩

theorem hdRow_of {w : World} {A : Option Addr} {n : Nat} {R : Nat → Nat → Int} (h : IRow .i64 3 w A n R) : HdRow w A n ((List.range n).map fun i => (R i 0, R i 1, R i 2)) := by
  refine ⟨by simp, fun hn => ?_⟩
  obtain ⟨g, o, rfl, hg, hc⟩ := h hn
  refine ⟨g, o, rfl, hg, fun i hi => ?_⟩
  rw [List.getD_eq_getElem?_getD, List.getElem?_map, List.getElem?_range hi]
  exact ⟨by simpa using (hc i hi 0 (by omega)).1, (hc i hi 1 (by omega)).1, (hc i hi 2 (by omega)).1⟩
theorem walkFinds.walk (A : Option Addr) (n c : Nat) (R : Nat → Nat → Int) (k : Int) (w : World) (h : IRow .i64 3 w A n R) (hl : n * 24 ≤ 140737488351232) (_ : (Lit.int .i64 k).wf = true) :
    Calls Try.prog 5 #[.slice A n c, .int .i64 k] w fun e w' => e = .returned (.bool true) ∧ Below w.heap.size w w' := by
  by_cases h1 : 50 < n
  · exact finds_many A n c k w h1 (by omega)
  · by_cases h0 : n = 0
    · subst h0; exact finds_none A c k w
    · exact finds_any A n c _ k w (hdRow_of h) (by omega) (by omega)
end Go.Proofs.Ytfebfmhjdgjlmaa
