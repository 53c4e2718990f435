/-
  The walks of round and of the library's Grow and Concat, as Take calls them. No condition.
-/
import Derived.Test.YtiooikjaalphiaaPut
import Derived.Lib.AppendZeros
namespace Go.Proofs.Ytiooikjaalphiaa
open Go.ChangeShapes Go.WideShapes Go.ChangeAt Go.RowKit
set_option linter.unusedVariables false
set_option linter.unusedSimpArgs false

theorem rnd_tmod (i m : Int) : (i.tmod m + m) % m = i % m := by
  rw [Int.add_emod_right, Int.tmod_def, show i - m * i.tdiv m = i + m * (-(i.tdiv m)) by rw [Int.mul_neg]; omega, Int.add_mul_emod_self_left]
theorem round_any (i : Int) (m : Nat) (w : World) (hi : -9223372036854775808 ≤ i ∧ i ≤ 9223372036854775807) (hm : 1 ≤ m) (hm2 : m ≤ 1000) :
    Calls Try.prog 24 #[.int .i64 i, .int .i64 m] w fun e w' => e = .returned (.int .i64 (i % m)) ∧ w = w' := by
  have HR := Lib.hid (rnd_tmod i m)
  have h1 : -(m : Int) < i.tmod m := by
    have := Int.tmod_lt_of_pos (-i) (show (0 : Int) < m by omega)
    rw [Int.neg_tmod] at this
    omega
  have h2 : i.tmod m < m := Int.tmod_lt_of_pos i (by omega)
  obtain ⟨q, hq⟩ : ∃ q, i.tmod m = q := ⟨_, rfl⟩
  have e1 : i.tmod (m : Int) = q := hq
  have e2 : wrap64 q = q := IntWalk.wrap64_in _ (by omega)
  have e3 : wrap64 (q + (m : Int)) = q + m := IntWalk.wrap64_in _ (by omega)
  have e0 : ((m : Int) == 0) = false := by simp; omega
  have e0n : ¬ m = 0 := by omega
  have HQ := Lib.hid hq
  clear hq
  go_enter Try.func24, Try.ntmps24
  go_wp2
  go_ret
  exact ⟨ret_int (by rw [← HQ.out, HR.out]), rfl⟩
theorem grow_zero (w : World) : Calls Try.prog 29 #[.slice none 0 0, .int .i64 0] w fun e w' => e = .returned (.slice none 0 0) ∧ w = w' := by
  go_enter Try.func29, Try.ntmps29
  go_wp2
  go_ret
  exact ⟨rfl, rfl⟩
theorem grow_pos (n : Nat) (w : World) (h1 : 1 ≤ n) (h2 : n ≤ 1000) : Calls Try.prog 29 #[.slice none 0 0, .int .i64 n] w fun e w' => ∃ c, e = .returned (.slice (some ⟨w.heap.size, 0, none⟩) 0 c) ∧ w'.ownsRow w.heap.size 41 2 (.slice (some ⟨w.heap.size, 0, none⟩) 0 c) 0 [] ∧ Below w.heap.size w w' := by
  obtain ⟨i0, hi, hz0, hz1, hz2⟩ := info_parts info41
  have hrun := fun W => Lib.run_append_nil_zeros (P := Try.prog) W 51 3 51 41 i0 _ .i64 .i64 Try.underlying51 Try.underlying3 hi hz0 n (by omega) (by rw [hz1]; omega) (by omega) (by rw [hz2]; omega)
  have HRUN := Lib.hid hrun
  have t1 : decide ((n : Int) < 0) = false := by simp
  have t2 : decide ((0 : Int) < (n : Int)) = true := by simp; omega
  have hcap := grownCap_ge w n 0 41
  have hcm := grownCap_le_maxLen w n 0 41 (by unfold maxLen; omega)
  obtain ⟨c, hc⟩ : ∃ c, grownCap w n 0 41 = c := ⟨_, rfl⟩
  obtain ⟨zs, hzs⟩ : ∃ zs, Builtin.zeroCells (Value.agg #[.slice none 0 0, .int .i64 0]).cells n ++ Builtin.zeroCells (Value.agg #[.slice none 0 0, .int .i64 0]).cells (grownCap w n 0 41 - n) = zs := ⟨_, rfl⟩
  have HE : Hid ((Builtin.append_ #[51, 3] 51 #[.slice none 0 0, .int .i64 n]).run Try.prog w = .ok (.slice (some ⟨w.heap.size, 0, none⟩) n c) (w.drew.alloc (.cells zs 41))) := by
    unfold Hid
    rw [hrun w, hc, ← hzs, hc]
  have HSZ : Hid (zs.size = c * 2) := by
    unfold Hid
    rw [← hzs, hc]
    simp [Builtin.zeroCells, Value.cells]
    omega
  have HCM : Hid (c ≤ maxLen) := by unfold Hid; rw [← hc]; exact hcm
  have hnc : n ≤ c := by rw [← hc]; exact hcap
  have hc63 : c ≤ 9223372036854775807 := by have := HCM.out; unfold maxLen at this; exact this
  clear hi hz0 hz1 hz2 hrun hc hzs hcap hcm HRUN
  go_enter Try.func29, Try.ntmps29
  go_wp2_with (at_builtin; refine Lib.wpList_append_run _ rfl _ _ _ _ rfl _ _ rfl rfl _ _ HE.out ?_)
  go_ret
  exact ⟨c, rfl, ⟨rfl, Or.inr ⟨w.heap.size, c, zs, rfl, Nat.le_refl _, heap_alloc_new w _, Nat.zero_le _, HCM.out, HSZ.out, by simp⟩⟩, ((Below.refl _ _).alloc (Nat.le_refl _) _).drew⟩
/-- A slice's packets' cells, at an address. -/
def CRow (w : World) (a : Addr) (X : List Value) : Prop := a.block < w.heap.size ∧ ∀ j u, X[j]? = some u → w.cell? (a.add j) = some u
theorem CRow.later {w v : World} {a : Addr} {X : List Value} (h : CRow w a X) (hb : Below w.heap.size w v) : CRow v a X :=
  ⟨Nat.lt_of_lt_of_le h.1 hb.size, fun j u hj => (hb.cell (p := a.add j) (by rw [show (a.add j).block = a.block by unfold Addr.add; split <;> rfl]; exact h.1)).trans (h.2 j u hj)⟩
theorem flat_one {ps : List Pk} : ∀ u ∈ flatP ps, u.oneCell' = true := by
  intro u hu
  simp only [flatP, List.mem_flatMap] at hu
  obtain ⟨p, _, hu⟩ := hu
  exact one2 (sl := p.sl) (b := p.born) rfl u hu
def CPost (w : World) (n : Nat) (X : List Value) (e : Ending) (w' : World) : Prop := ∃ v, e = .returned v ∧ w'.ownsRow w.heap.size 41 2 v n X ∧ Below w.heap.size w w'
theorem row_later {w v : World} {B n : Nat} {x : Value} {X : List Value} (h : w.ownsRow B 41 2 x n X) (hb : Below w.heap.size w v) : v.ownsRow B 41 2 x n X :=
  ⟨h.1, h.2.imp id fun ⟨g, cap, cur, h1, h2, h3, h4⟩ => ⟨g, cap, cur, h1, h2, (hb.block g (lt_of_block h3)).trans h3, h4⟩⟩
theorem grow_to (n : Nat) (w : World) (h2 : n ≤ 1000) : Calls Try.prog 29 #[.slice none 0 0, .int .i64 n] w fun e w' => ∃ A c, e = .returned (.slice A 0 c) ∧ w'.ownsRow w.heap.size 41 2 (.slice A 0 c) 0 [] ∧ Below w.heap.size w w' := by
  by_cases h0 : n = 0
  · subst h0
    refine (grow_zero w).mono ?_
    rintro e w' ⟨rfl, rfl⟩
    exact ⟨_, _, rfl, World.ownsRow_nil _ _ _ _, Below.refl _ _⟩
  · refine (grow_pos n w (by omega) h2).mono ?_
    rintro e w' ⟨c, rfl, h1, h2⟩
    exact ⟨_, _, rfl, h1, h2⟩
theorem row_form {w : World} {B n : Nat} {v : Value} {X : List Value} (h : w.ownsRow B 41 2 v n X) : ∃ A c, v = .slice A n c := by
  rcases h.2 with ⟨rfl, h0⟩ | ⟨g, cap, cur, rfl, _⟩
  · exact ⟨none, 0, by rw [h0]⟩
  · exact ⟨_, _, rfl⟩
theorem below_row {w wr w1 : World} {B n : Nat} {v : Value} {X : List Value} (hb : Below B w wr) (hB : B ≤ wr.heap.size) (h : wr.ownsRow B 41 2 v n X) (hg : wr.grownBy w1 v.ownBlock) : Below B w w1 := hb.grown hg hB (fun k hk => (h.lt k hk).1)
set_option maxHeartbeats 1600000 in
theorem concat_any (gb : Nat) (a1 a2 : Addr) (n1 c1 n2 c2 : Nat) (ps qs : List Pk) (w : World) (hb : Blk w gb 51 #[.slice (some a1) n1 c1, .slice (some a2) n2 c2]) (h1 : CRow w a1 (flatP ps)) (h2 : CRow w a2 (flatP qs)) (e1 : ps.length = n1) (e2 : qs.length = n2) (hn : n1 + n2 ≤ 500) :
    Calls Try.prog 27 #[.slice (some ⟨gb, 0, none⟩) 2 2] w (CPost w (n1 + n2) (flatP ps ++ flatP qs)) := by
  obtain ⟨i0, hi, hz0, hz1, hz2⟩ := info_parts info41
  have HZ := Lib.hid (And.intro hi (And.intro hz0 (And.intro hz1 hz2)))
  have x0 : w.cell? ⟨gb, 0, none⟩ = some (.slice (some a1) n1 c1) := hb.cell 0
  have x1 : w.cell? ⟨gb, 1, none⟩ = some (.slice (some a2) n2 c2) := hb.cell 1
  have l1 : (flatP ps).length = n1 * 2 := by rw [flatP_len, e1]
  have l2 : (flatP qs).length = n2 * 2 := by rw [flatP_len, e2]
  have o1 : ∀ u ∈ flatP ps, u.oneCell' = true := flat_one
  have o2 : ∀ u ∈ flatP qs, u.oneCell' = true := flat_one
  generalize flatP ps = X at *
  generalize flatP qs = Y at *
  have HB := Lib.hid hb
  have H1 := Lib.hid h1
  have H2 := Lib.hid h2
  have L1 := Lib.hid l1
  have L2 := Lib.hid l2
  have O1 := Lib.hid o1
  have O2 := Lib.hid o2
  have t1 : decide ((n1 : Int) < 0) = false := by simp
  have t2 : decide ((n1 : Int) + (n2 : Int) < 0) = false := by simp; omega
  clear hb h1 h2 l1 l2 o1 o2 e1 e2 hi hz0 hz1 hz2
  go_enter Try.func27, Try.ntmps27
  go_wp2_with fail
  refine wp_loop_rounds 3 ?_; rw [rounds_succ]
  go_wp2_with fail
  rw [rounds_succ]
  go_wp2_with fail
  rw [rounds_succ]
  go_wp2_with fail
  have hg := grow_to (n1 + n2) w (by omega)
  rw [Int.natCast_add] at hg
  refine hg.mono ?_; rintro e w2 ⟨A, c, rfl, hrow, hb2⟩
  have R2 := Lib.hid hrow
  have B2 := Lib.hid hb2
  have y0 : w2.cell? ⟨gb, 0, none⟩ = some (.slice (some a1) n1 c1) := (hb2.cell (p := ⟨gb, 0, none⟩) HB.out.lt).trans x0
  have K1 := Lib.hid (H1.out.later hb2)
  have hs2 := hb2.size
  clear hg hrow hb2 x0
  go_wp2_with fail
  refine wp_loop_rounds 3 ?_; rw [rounds_succ]
  go_wp2_with (at_builtin; refine wpList_append_own _ rfl _ _ 51 rfl w.heap.size 41 i0 _ 2 32 Try.underlying51 HZ.out.1 HZ.out.2.1 HZ.out.2.2.1 HZ.out.2.2.2 rfl (by decide) _ 0 [] rfl R2.out a1 n1 c1 X rfl L1.out K1.out.2 O1.out ?_ ?_ ?_ ?_)
  · unfold maxLen; omega
  · omega
  · omega
  intro v3 w3 hown hgrow _
  have hb3 := below_row B2.out hs2 R2.out hgrow
  obtain ⟨A3, c3, rfl⟩ := row_form hown
  have y1 : w3.cell? ⟨gb, 1, none⟩ = some (.slice (some a2) n2 c2) := (hb3.cell (p := ⟨gb, 1, none⟩) HB.out.lt).trans x1
  have K2 := Lib.hid (H2.out.later hb3)
  have B3 := Lib.hid hb3
  have hs3 := hb3.size
  have R3 := Lib.hid hown
  clear hown hgrow hb3 y0
  go_wp2_with fail
  rw [rounds_succ]
  go_wp2_with (at_builtin; refine wpList_append_own _ rfl _ _ 51 rfl w.heap.size 41 i0 _ 2 32 Try.underlying51 HZ.out.1 HZ.out.2.1 HZ.out.2.2.1 HZ.out.2.2.2 rfl (by decide) _ n1 X rfl R3.out a2 n2 c2 Y rfl L2.out K2.out.2 O2.out ?_ ?_ ?_ ?_)
  · unfold maxLen; omega
  · omega
  · omega
  intro v4 w4 hown hgrow _
  have hb4 := below_row B3.out hs3 R3.out hgrow
  obtain ⟨A4, c4, rfl⟩ := row_form hown
  have B4 := Lib.hid hb4
  have R4 := Lib.hid hown
  clear hown hgrow hb4 x1 y1
  go_wp2_with fail
  rw [rounds_succ]
  go_wp2_with fail
  go_ret
  exact ⟨_, rfl, R4.out, B4.out⟩
end Go.Proofs.Ytiooikjaalphiaa
