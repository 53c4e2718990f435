/-
  The walks of pick.round, its iterator, first, Two. No condition beyond a length that is no machine's.
-/
import Derived.RangeFuncNested
import Derived.RangeFuncBound
import Derived.RangeFuncCalls
import Derived.RangeFuncLeaves
import Derived.RangeFuncBox
import Derived.Shelf.Abstract
import Derived.Shelf.RegionOpen
import Derived.WalkKit
import Derived.OwnWalkIn
import Derived.TacticsInMore
import Derived.LoopNIn
import Derived.LoopIn
import Derived.Maps.AppendAt
import Derived.ControlIn
import Derived.Deep.DeepCutAuto
import Derived.Stop.RegionWithIn
import Derived.Test.YtblnlmhkaacciaaRound
import Derived.Test.YtblnlmhkaacciaaTail
namespace Go.Proofs.Ytblnlmhkaacciaa
open Go.ChangeShapes Go.WideShapes Go.ChangeAt Go.RowKit Go.Shelf
set_option linter.unusedVariables false
set_option linter.unusedSimpArgs false

/-- What the iterator's value captures, in a world. -/
def Slots (A : Option Addr) (n c k : Nat) (t : List Int) (b1 b2 : Nat) (W : World) : Prop := b1 < W.heap.size ∧ b2 < W.heap.size ∧ W.cell? ⟨b1, 0, none⟩ = some (.slice A n c) ∧ W.cell? ⟨b2, 0, none⟩ = some (.int .i64 (k : Int)) ∧ NRow W A t
theorem Slots.later {A : Option Addr} {n c k : Nat} {t : List Int} {b1 b2 : Nat} {w v : World} (h : Slots A n c k t b1 b2 w) (hb : Below w.heap.size w v) : Slots A n c k t b1 b2 v :=
  ⟨Nat.lt_of_lt_of_le h.1 hb.size, Nat.lt_of_lt_of_le h.2.1 hb.size, (hb.cell (p := ⟨b1, 0, none⟩) h.1).trans h.2.2.1, (hb.cell (p := ⟨b2, 0, none⟩) h.2.1).trans h.2.2.2.1, h.2.2.2.2.later hb⟩
theorem rotL_take (t : List Int) (k i : Nat) (h : i < (rotL t k).length) : (rotL t k).take (i + 1) = (rotL t k).take i ++ [(rotL t k)[i]] := by rw [List.take_add_one, List.getElem?_eq_getElem h]; rfl
attribute [local go_sem] Oper.semAt_some
set_option maxRecDepth 100000 in
set_option maxHeartbeats 8000000 in
theorem round_in (n' : Nat) (hn' : 1 ≤ n') (l b1 b2 n₀ : Nat) (A : Option Addr) (n c k : Nat) (t : List Int) (J Jx : List Int → World → Prop)
    (hn : t.length = n) (hm : n ≤ 17592186044416) (hk : k < n ∨ n = 0) (hk2 : k ≤ 17592186044416)
    (w : World) (hw : n₀ = w.heap.size) (hJ : ∀ s W, J s W → J s W.drew) (hS : Slots A n c k t b1 b2 w)
    (hY : ∀ pre x W, J pre W → pre.length < n → YieldAt Fence.wide (n' - 1) Try.prog l #[.int .i64 x] W fun e W' =>
      (e = .returned (.bool true) ∧ J (pre ++ [x]) W' ∧ Below n₀ W W') ∨ (e = .returned (.bool false) ∧ Jx (pre ++ [x]) W'))
    (W : World) (hW : Below n₀ w W) (h0 : J [] W) :
    CallsIn Fence.wide n' Try.prog 31 #[.func (.yield l) #[] #[], .pointer (some ⟨b1, 0, none⟩), .pointer (some ⟨b2, 0, none⟩)] W fun e W' => (∃ v, e = .returned v) ∧
      ((∃ ys, ys = rotL t k ∧ J ys W') ∨ (∃ pre, pre <+: rotL t k ∧ Jx pre W')) := by
  subst hw
  have c1 := (hW.cell (p := ⟨b1, 0, none⟩) hS.1).trans hS.2.2.1
  have HS := Lib.hid hS
  have HN := Lib.hid hn
  obtain ⟨r, hr⟩ : ∃ r, rotL t k = r := ⟨_, rfl⟩
  have HR := Lib.hid hr
  have hrl : r.length = n := by rw [← hr, rotL_len, hn]
  have HRL := Lib.hid hrl
  rw [hr]
  have HYY := Lib.hid hY
  have HH0 := Lib.hid h0
  have HW := Lib.hid hW
  clear hY h0 hW hS hn hr hrl
  refine callsIn_of_wp Try.func31 rfl trivial ?_ rfl
  simp only [Try.ntmps31, List.size_toArray, List.length_cons, List.length_nil, Nat.reduceAdd, Nat.reduceSub, Array.replicate_succ, Array.replicate_zero, List.push_toArray, List.append_toArray, List.nil_append, List.cons_append]
  gi_wp2
  gi_loopw [7] (fun s7 wr => ∃ i : Nat, s7 = .int .i64 (i : Int) ∧ i ≤ n ∧ Hid (Below w.heap.size w wr) ∧ Hid (J (r.take i) wr))
    (fun s7 wr => n - (intOf s7).toNat)
  case atStart => exact ⟨0, rfl, by omega, HW.out, HH0.out⟩
  case round =>
    obtain ⟨i, rfl, hin, HB, HJ⟩ := hrel
    by_cases hlt : i < n
    · have il : i < r.length := by rw [HRL.out]; exact hlt
      obtain ⟨fn, tmps, assign, body, hy, hR⟩ := HYY.out (r.take i) r[i] wr.drew (hJ _ _ HJ.out) (by rw [List.length_take]; omega)
      obtain ⟨_, _, d1, d2, hrow⟩ := HS.out.later HB.out.drew
      have htk : r.take (i + 1) = r.take i ++ [r[i]] := by rw [List.take_add_one, List.getElem?_eq_getElem il]; rfl
      have hri : r[i] = t.getD (rotI n k i) 0 := by
        have h1 := HR.out
        subst h1
        rw [rotL_at, HN.out]
      obtain ⟨q, hq⟩ : ∃ q, rotI n k i = q := ⟨_, rfl⟩
      have hqn : q < n := by rw [← hq]; exact Nat.mod_lt _ (by omega)
      obtain ⟨g, off, rfl, hg, hc⟩ := hrow (by have := HN.out; omega)
      have hql : q < t.length := by rw [HN.out]; exact hqn
      rw [← htk] at hR
      obtain ⟨v, hv⟩ : ∃ v, r[i] = v := ⟨_, rfl⟩
      have x0 : wr.drew.cell? ⟨g, off + q, none⟩ = some (.int .i64 v) := by
        rw [hc q hql, ← hv, hri, hq]
        simp [hql]
      rw [hv] at hy
      have b1' : (0 : Int) ≤ (q : Int) := Int.natCast_nonneg q
      have b2' : (q : Int) < (n : Int) := Int.ofNat_lt.2 hqn
      have e1 : Int.tmod ((k : Int) + (i : Int)) (n : Int) = (q : Int) := by rw [← hq]; rfl
      have e2 : ((k : Int) + (i : Int)) % (n : Int) = (q : Int) := by rw [← hq]; rfl
      have z0 : ((n : Int) == 0) = false := by simp; omega
      have HRR : Hid (RoundIn Fence.wide (n' - 1) Try.prog l fn tmps assign body wr.drew fun e W' => ∃ b, e = .returned (.bool b) ∧ Hid ((b = true ∧ J (r.take (i + 1)) W' ∧ Below w.heap.size wr.drew W') ∨ (b = false ∧ Jx (r.take (i + 1)) W'))) := by
        refine hR.mono ?_
        rintro e W3 (⟨rfl, h1, h2⟩ | ⟨rfl, h1⟩)
        · exact ⟨_, rfl, .inl ⟨rfl, h1, h2⟩⟩
        · exact ⟨_, rfl, .inr ⟨rfl, h1⟩⟩
      clear hri hq hc hv htk hrow hR hJ hk hql hg il hqn
      gi_wp2
      have e3 : IntKind.i64.wrap ((k : Int) + (i : Int)) = (k : Int) + (i : Int) := IntWalk.i64_in _ (by omega)
      have e4 : IntKind.i64.wrap (q : Int) = (q : Int) := IntWalk.i64_in _ (by omega)
      have z1 : ¬ n = 0 := by omega
      refine wpIn_still_tail 10 (by kernel_rfl) (by kernel_rfl) ?_
      simp only [List.take_succ_cons, List.take_zero, List.drop_succ_cons, List.drop_zero]
      repeat still_step
      refine wpStill_nil ?_
      clear e3 e4 e1 e2 z0 z1
      gi_wp2
      refine HRR.out.mono ?_
      rintro e W3 ⟨b, rfl, HE⟩
      dsimp only
      all_goals
        cases b
        · gi_wp2
          refine bodyPost_ret (results_none rfl _ _ _) rfl ?_
          rcases HE.out with ⟨h, _⟩ | ⟨_, h⟩
          · cases h
          · exact ⟨⟨_, rfl⟩, .inr ⟨_, List.take_prefix _ _, h⟩⟩
        · have HQ : Hid (J (r.take (i + 1)) W3 ∧ Below w.heap.size w W3) := by
            rcases HE.out with ⟨_, h1, h2⟩ | ⟨h, _⟩
            · exact ⟨h1, HB.out.drew.trans h2⟩
            · cases h
          gi_wp2
          go_roundw
          case rel => exact ⟨i + 1, by go_num, by omega, HQ.out.2, HQ.out.1⟩
          case measure => simp [intOf]; omega
    · obtain rfl : i = n := by omega
      have HJ2 := HJ.out
      rw [List.take_of_length_le (by rw [HRL.out]; omega)] at HJ2
      have HJ3 := Lib.hid HJ2
      clear HJ2
      gi_wp2
      go_end0
      exact ⟨⟨_, rfl⟩, .inl ⟨_, rfl, HJ3.out⟩⟩
end Go.Proofs.Ytblnlmhkaacciaa
