/-
  Words for packets and nets; the walks of New, is, Len, Lost, of. No condition.
-/
import Derived.Test.YtiooikjaalphiaaMem
import Derived.Laws.CopyOwn
import Derived.Laws.MakeOwn
import Derived.Deep.RegionHeld3
import Derived.WalkSpells
import Derived.WalkLawsBesides
import Derived.RegionTactic
import Derived.Deep.RegionWith
import Derived.BigRegion
import Derived.Deep.DeepCutAuto
import Derived.Deep.LoopGhost
import Derived.OwnWalk
import Derived.Deep.MidRow
namespace Go.Proofs.Ytiooikjaalphiaa
open Go.ChangeShapes Go.WideShapes Go.ChangeAt Go.RowKit
set_option linter.unusedVariables false
set_option linter.unusedSimpArgs false

/-- A packet: the block of its bytes, the bytes, when it was sent. -/
structure Pk where
  g : Nat
  bs : List Int
  born : Int
def u8l (bs : List Int) : List Value := bs.map (Value.int .u8)
def Pk.sl (p : Pk) : Value := .slice (some ⟨p.g, 0, none⟩) p.bs.length p.bs.length
def Pk.val (p : Pk) : List Value := [p.sl, .int .i64 p.born]
def flatP (ps : List Pk) : List Value := ps.flatMap Pk.val
theorem flatP_len (ps : List Pk) : (flatP ps).length = ps.length * 2 := by
  induction ps with
  | nil => rfl
  | cons p t ih => simp [flatP, Pk.val] at *; omega
theorem flatP_append (ps qs : List Pk) : flatP (ps ++ qs) = flatP ps ++ flatP qs := by simp [flatP]
theorem flatP_at : ∀ (ps : List Pk) (i : Nat) (h : i < ps.length), (flatP ps)[i * 2]? = some (ps[i].sl) ∧ (flatP ps)[i * 2 + 1]? = some (.int .i64 ps[i].born)
  | p :: t, 0, _ => ⟨rfl, rfl⟩
  | p :: t, i + 1, h => by
    have r := flatP_at t i (by simpa using h)
    have e : flatP (p :: t) = p.sl :: .int .i64 p.born :: flatP t := rfl
    rw [e, show (i + 1) * 2 = i * 2 + 1 + 1 by omega, show i * 2 + 1 + 1 + 1 = (i * 2 + 1) + 1 + 1 by omega]
    exact r
/-- Bytes that lie somewhere. -/
def BRow (w : World) (A : Option Addr) (n : Nat) (bs : List Int) : Prop := bs.length = n ∧ (0 < n → ∃ g o, A = some ⟨g, o, none⟩ ∧ g < w.heap.size ∧ ∀ i, i < n → w.cell? ⟨g, o + i, none⟩ = some (.int .u8 (bs.getD i 0)))
theorem BRow.later {w v : World} {A : Option Addr} {n : Nat} {bs : List Int} (h : BRow w A n bs) (hb : Below w.heap.size w v) : BRow v A n bs :=
  ⟨h.1, fun hn => by
    obtain ⟨g, o, rfl, hg, hc⟩ := h.2 hn
    exact ⟨g, o, rfl, Nat.lt_of_lt_of_le hg hb.size, fun i hi => (hb.cell (p := ⟨g, _, none⟩) hg).trans (hc i hi)⟩⟩
/-- A packet's bytes lie in its block. -/
def Pk.lies (w : World) (p : Pk) : Prop := Blk w p.g 5 (u8l p.bs).toArray
theorem Pk.lies.row {w : World} {p : Pk} (h : p.lies w) : BRow w (some ⟨p.g, 0, none⟩) p.bs.length p.bs :=
  ⟨rfl, fun _ => ⟨p.g, 0, rfl, Blk.lt h, fun i hi => by rw [Nat.zero_add, Blk.cell h]; simp [u8l, hi]⟩⟩
theorem Pk.lies.later {w v : World} {p : Pk} (h : p.lies w) (hb : Below w.heap.size w v) : p.lies v := Blk.below h hb (Blk.lt h)

/-- The cells of a source, where there are any. -/
def Src (w : World) (d : Addr) (A : Option Addr) (cs : List Value) : Prop := 0 < cs.length → some d = some d ∧ ∃ ad, A = some ad ∧ ∀ j v, cs[j]? = some v → w.cell? (ad.add j) = some v
theorem info5 : (Try.prog.info? 5).map (fun i => (i.zero, i.size, i.bytes)) = some (some (.int .u8 0), 1, 1) := by kernel_rfl
theorem size5 : (Try.prog.info? 5).map (·.size) = some 1 := by kernel_rfl
theorem size41 : (Try.prog.info? 41).map (·.size) = some 2 := by kernel_rfl
theorem of_any (A : Option Addr) (n c : Nat) (bs : List Int) (b : Int) (w : World) (h : BRow w A n bs) (hn : n ≤ 140737488355328) (hc : n ≤ c) :
    Calls Try.prog 21 #[.agg #[.slice A n c, .int .i64 b]] w fun e w' => ∃ p : Pk, e = .returned (.agg #[.slice (some ⟨p.g, 0, none⟩) n n, .int .i64 b]) ∧ p.bs = bs ∧ p.born = b ∧ p.lies w' ∧ w.heap.size ≤ p.g ∧ Below w.heap.size w w' := by
  obtain ⟨i0, hi, hz0, hz1, hz2⟩ := info_parts info5
  obtain ⟨zs, hzs⟩ : ∃ zs, madeCells (Value.int .u8 0).cells (n * 1) = zs := ⟨_, rfl⟩
  have hmk : ∀ W : World, (Instr.makeSlice 28 (.int .i64 (n : Int)) (.int .i64 (n : Int))).run Try.prog W = .ok (.slice (some ⟨W.heap.size, 0, none⟩) n n) (W.alloc (.cells zs 5)) := by
    intro W
    have hr := run_make (P := Try.prog) W 28 5 i0 (.int .u8 0) Try.underlying28 hi hz0 .i64 .i64 (n : Int) (n : Int) (by omega) (by omega) (by rw [hz2]; omega) (by omega)
    rw [Int.toNat_natCast, hz1, hzs] at hr
    exact hr
  have HZ : Hid (zs.size = n) := by unfold Hid; rw [← hzs, size_madeCells]; omega
  have HH := Lib.hid h
  have hnb := h.1
  have HB0 : Hid (Below w.heap.size w (((w.alloc (.cells #[.slice A n c, .int .i64 b] 41)).alloc (.cells #[.slice none 0 0, .int .i64 0] 41)).alloc (.cells zs 5))) := (((Below.refl _ _).alloc (Nat.le_refl _) _).alloc (by simp) _).alloc (by simp; omega) _
  have K0 : Hid (Blk (((w.alloc (.cells #[.slice A n c, .int .i64 b] 41)).alloc (.cells #[.slice none 0 0, .int .i64 0] 41)).alloc (.cells zs 5)) w.heap.size 41 #[.slice A n c, .int .i64 b]) := ((Blk.new w 41 _).more _).more _
  have K1 : Hid (Blk (((w.alloc (.cells #[.slice A n c, .int .i64 b] 41)).alloc (.cells #[.slice none 0 0, .int .i64 0] 41)).alloc (.cells zs 5)) (w.heap.size + 1) 41 #[.slice none 0 0, .int .i64 0]) := (Blk.newAt _ 41 _ _ (by simp)).more _
  have K2 : Hid (Blk (((w.alloc (.cells #[.slice A n c, .int .i64 b] 41)).alloc (.cells #[.slice none 0 0, .int .i64 0] 41)).alloc (.cells zs 5)) (w.heap.size + 1 + 1) 5 zs) := Blk.newAt _ 5 _ _ (by simp)
  have hsz : (((w.alloc (.cells #[.slice A n c, .int .i64 b] 41)).alloc (.cells #[.slice none 0 0, .int .i64 0] 41)).alloc (.cells zs 5)).heap.size = w.heap.size + 3 := by simp
  obtain ⟨wa, hwaE⟩ : ∃ wa, (((w.alloc (.cells #[.slice A n c, .int .i64 b] 41)).alloc (.cells #[.slice none 0 0, .int .i64 0] 41)).alloc (.cells zs 5)) = wa := ⟨_, rfl⟩
  have HWE := Lib.hid hwaE
  rw [hwaE] at HB0 K0 K1 K2 hsz
  clear hi hz0 hz1 hz2 hzs h hwaE
  go_enter Try.func21, Try.ntmps21
  go_upto_region 2 with fail
  rw [HWE.out]
  have x0 : wa.cell? ⟨w.heap.size, 0, none⟩ = some (.slice A n c) := K0.out.cell 0
  have hsrc : Src wa ⟨w.heap.size + 1 + 1, 0, none⟩ A (u8l bs) := by
    intro hp
    obtain ⟨g, o, hA, hg, hcell⟩ := (HH.out.later HB0.out).2 (by simp [u8l] at hp; omega)
    refine ⟨rfl, _, hA, fun j v hj => ?_⟩
    have hjn : j < n := by
      have := (List.getElem?_eq_some_iff.1 hj).1
      simp [u8l] at this; omega
    rw [Addr.add_mid, hcell j hjn, ← hj]
    simp [u8l, hjn, hnb]
  have hfit : 0 + (u8l bs).length ≤ zs.toList.length := by have := HZ.out; simp [u8l]; omega
  have hone : ∀ v ∈ u8l bs, v.oneCell' = true := by intro v hv; simp only [u8l, List.mem_map] at hv; obtain ⟨z, _, rfl⟩ := hv; rfl
  have hlen : (u8l bs).length = Nat.min n n := by simp [u8l, hnb]
  have hs2 : splice zs.toList 0 (u8l bs) = u8l bs := by
    have := HZ.out
    unfold splice
    rw [List.take_zero, List.nil_append, List.drop_eq_nil_of_le (by simp [u8l]; omega), List.append_nil]
  have HSRC := Lib.hid hsrc
  obtain ⟨cur, hcur⟩ : ∃ cur, zs.toList = cur := ⟨_, rfl⟩
  have K2L : Hid (Blk wa (w.heap.size + 1 + 1) 5 cur.toArray) := by unfold Hid; rw [← hcur]; simpa using K2.out
  have HFIT := Lib.hid hfit
  have HONE := Lib.hid hone
  have HLEN := Lib.hid hlen
  have HS2 := Lib.hid hs2
  obtain ⟨cs, hcs⟩ : ∃ cs, u8l bs = cs := ⟨_, rfl⟩
  have HCS := Lib.hid hcs
  rw [hcs] at HSRC HFIT HONE HLEN HS2
  rw [hcur] at HFIT HS2
  clear hcur hsrc hfit hone hlen hs2 hcs hnb
  go_wp2_with (refine wpList_copy_splice rfl _ _ 28 28 rfl 5 Try.underlying28 size5 _ _ n n n c rfl rfl (w.heap.size + 1 + 1) 0 cur 5 K2L.out cs HLEN.out HSRC.out HFIT.out HONE.out (w.heap.size + 2) wa (Below.refl _ _) (by omega) ?_; intro w2 HG2 hB2; have K1' := K1.out.below hB2 (by omega); have x1 : w2.cell? ⟨w.heap.size, 1, none⟩ = some (.int .i64 b) := (K0.out.below hB2 (by omega)).cell 1; have x2 : w2.cell? ⟨w.heap.size + 1, 0, none⟩ = some (.slice none 0 0) := K1'.cell 0; have x3 : w2.cell? ⟨w.heap.size + 1, 1, none⟩ = some (.int .i64 0) := K1'.cell 1; have f2 := K1'.free 0; have f3 := K1'.free 1; have HB2 := Lib.hid (HB0.out.trans (hB2.mono (by omega))); have K1H := Lib.hid K1'; clear K1' hB2 x0)
  have K3 := (K1H.out.put 0 (.slice (some ⟨w.heap.size + 1 + 1, 0, none⟩) n n) rfl).put 1 (.int .i64 b) rfl
  refine bodyPost_ret (results_cell_row rfl _ _ (w.heap.size + 1) 41 _ _ _ rfl K3 Try.underlying41 rfl size41) rfl ?_
  have hg2 : w2.heap[w.heap.size + 1 + 1]? = some (.cells (u8l bs).toArray 5 (0, 0)) := by rw [HCS.out]; have := HG2.out; rw [HS2.out] at this; exact this
  refine ⟨⟨w.heap.size + 1 + 1, bs, b⟩, rfl, rfl, rfl, ?_, by (show w.heap.size ≤ w.heap.size + 1 + 1; omega), (HB2.out.setCell (by (show w.heap.size ≤ w.heap.size + 1; omega)) _).setCell (by (show w.heap.size ≤ w.heap.size + 1; omega)) _⟩
  exact Blk.away (Blk.away hg2 (by (show w.heap.size + 1 + 1 ≠ w.heap.size + 1; omega)) _) (by (show w.heap.size + 1 + 1 ≠ w.heap.size + 1; omega)) _

/-- The net at N: its row at V, which has place for cap packets, the packets, how many were lost. -/
def NetIs (w : World) (N B : Nat) (v : Value) (ps : List Pk) (lost : Int) : Prop :=
  Blk w N 53 #[.bool true, v, .int .i64 lost] ∧ w.ownsRow B 41 2 v ps.length (flatP ps) ∧ (∀ p ∈ ps, p.lies w ∧ B ≤ p.g) ∧ N < B ∧ B ≤ w.heap.size
def NoNet (w : World) (v : Value) : Prop := v = .pointer none ∨ ∃ N, v = .pointer (some ⟨N, 0, none⟩) ∧ Blk w N 53 #[.bool false, .slice none 0 0, .int .i64 0]
theorem is_nil (w : World) : Calls Try.prog 20 #[.pointer none] w fun e w' => e = .returned (.bool false) ∧ w = w' := by
  go_enter Try.func20, Try.ntmps20
  go_wp2
  go_ret
  exact ⟨rfl, rfl⟩
theorem is_blk (N : Nat) (m : Bool) (v : Value) (l : Int) (w : World) (h : Blk w N 53 #[.bool m, v, .int .i64 l]) : Calls Try.prog 20 #[.pointer (some ⟨N, 0, none⟩)] w fun e w' => e = .returned (.bool m) ∧ w = w' := by
  have c0 : w.cell? ⟨N, 0, none⟩ = some (.bool m) := h.cell 0
  clear h
  go_enter Try.func20, Try.ntmps20
  go_wp2
  go_ret
  exact ⟨rfl, rfl⟩
theorem is_none (v : Value) (w : World) (h : NoNet w v) : Calls Try.prog 20 #[v] w fun e w' => e = .returned (.bool false) ∧ w = w' := by
  rcases h with rfl | ⟨N, rfl, h⟩
  · exact is_nil w
  · exact is_blk N false _ _ w h
theorem len_none (v : Value) (w : World) (h : NoNet w v) : Calls Try.prog 17 #[v] w fun e w' => e = .returned (.int .i64 0) ∧ w = w' := by
  have HH := Lib.hid h
  clear h
  go_enter Try.func17, Try.ntmps17
  go_wp2_with fail
  refine (is_none _ _ HH.out).mono ?_; rintro e w' ⟨rfl, rfl⟩
  go_wp2
  go_ret
  exact ⟨rfl, rfl⟩
theorem lost_none (v : Value) (w : World) (h : NoNet w v) : Calls Try.prog 18 #[v] w fun e w' => e = .returned (.int .i64 0) ∧ w = w' := by
  have HH := Lib.hid h
  clear h
  go_enter Try.func18, Try.ntmps18
  go_wp2_with fail
  refine (is_none _ _ HH.out).mono ?_; rintro e w' ⟨rfl, rfl⟩
  go_wp2
  go_ret
  exact ⟨rfl, rfl⟩
theorem all_none (v : Value) (w : World) (h : NoNet w v) : Calls Try.prog 19 #[v] w fun e w' => e = .returned (.slice none 0 0) ∧ w = w' := by
  have HH := Lib.hid h
  clear h
  go_enter Try.func19, Try.ntmps19
  go_wp2_with fail
  refine (is_none _ _ HH.out).mono ?_; rintro e w' ⟨rfl, rfl⟩
  go_wp2
  go_ret
  exact ⟨rfl, rfl⟩
theorem put_none (v b : Value) (i : Int) (w : World) (h : NoNet w v) : Calls Try.prog 9 #[v, b, .int .i64 i] w fun e w' => e = .returned (.bool false) ∧ w = w' := by
  have HH := Lib.hid h
  clear h
  go_enter Try.func9, Try.ntmps9
  go_wp2_with fail
  refine (is_none _ _ HH.out).mono ?_; rintro e w' ⟨rfl, rfl⟩
  go_wp2
  go_ret
  exact ⟨rfl, rfl⟩
theorem double_none (v : Value) (i : Int) (w : World) (h : NoNet w v) : Calls Try.prog 13 #[v, .int .i64 i] w fun e w' => e = .returned (.bool false) ∧ w = w' := by
  have HH := Lib.hid h
  clear h
  go_enter Try.func13, Try.ntmps13
  go_wp2_with fail
  refine (len_none _ _ HH.out).mono ?_; rintro e w' ⟨rfl, rfl⟩
  go_wp2
  go_ret
  exact ⟨rfl, rfl⟩
theorem age_none (v : Value) (i : Int) (w : World) (h : NoNet w v) : Calls Try.prog 15 #[v, .int .i64 i] w fun e w' => e = .returned (.int .i64 0) ∧ Below w.heap.size w w' := by
  have HH : Hid (NoNet (w.alloc (.cells #[.int .i64 i] 3)) v) := h.imp id (fun ⟨N, e, hb⟩ => ⟨N, e, hb.more _⟩)
  clear h
  go_enter Try.func15, Try.ntmps15
  go_wp2_with fail
  refine (len_none _ _ HH.out).mono ?_; rintro e w' ⟨rfl, rfl⟩
  go_wp2
  go_ret
  exact ⟨rfl, (Below.refl _ _).alloc (Nat.le_refl _) _⟩
theorem take_none (v : Value) (i : Int) (w : World) (h : NoNet w v) : Calls Try.prog 11 #[v, .int .i64 i] w fun e w' => e = .returned (.tuple #[.agg #[.slice none 0 0, .int .i64 0], .bool false]) ∧ Below w.heap.size w w' := by
  have HH : Hid (NoNet (w.alloc (.cells #[.slice none 0 0, .int .i64 0] 41)) v) := h.imp id (fun ⟨N, e, hb⟩ => ⟨N, e, hb.more _⟩)
  clear h
  go_enter Try.func11, Try.ntmps11
  go_wp2_with fail
  refine (len_none _ _ HH.out).mono ?_; rintro e w' ⟨rfl, rfl⟩
  go_wp2_with fail
  go_returns
  refine ⟨by simp [go_sem], ?_⟩
  repeat' (first | (with_reducible exact Below.refl _ _) | (with_reducible refine Below.drew ?_) | (refine Below.alloc ?_ (by simp) _) | (refine Below.setCell ?_ (by simp) _))
section
variable {N B : Nat} {v : Value} {ps : List Pk} {lost : Int} {w : World}
theorem NetIs.form (h : NetIs w N B v ps lost) : ∃ A c, v = .slice A ps.length c := by
  rcases h.2.1.2 with ⟨rfl, h0⟩ | ⟨g, cap, cur, rfl, _⟩
  · exact ⟨none, 0, by rw [h0]⟩
  · exact ⟨_, _, rfl⟩
theorem len_net (h : NetIs w N B v ps lost) : Calls Try.prog 17 #[.pointer (some ⟨N, 0, none⟩)] w fun e w' => e = .returned (.int .i64 ps.length) ∧ w = w' := by
  obtain ⟨A, c, rfl⟩ := h.form
  have c1 : w.cell? ⟨N, 1, none⟩ = some (.slice A ps.length c) := h.1.cell 1
  have HH := Lib.hid h
  clear h
  go_enter Try.func17, Try.ntmps17
  go_wp2_with fail
  refine (is_blk N true _ _ _ HH.out.1).mono ?_; rintro e w' ⟨rfl, rfl⟩
  go_wp2
  go_ret
  exact ⟨rfl, rfl⟩
theorem lost_net (h : NetIs w N B v ps lost) : Calls Try.prog 18 #[.pointer (some ⟨N, 0, none⟩)] w fun e w' => e = .returned (.int .i64 lost) ∧ w = w' := by
  have c1 : w.cell? ⟨N, 2, none⟩ = some (.int .i64 lost) := h.1.cell 2
  have HH := Lib.hid h
  clear h
  go_enter Try.func18, Try.ntmps18
  go_wp2_with fail
  refine (is_blk N true _ _ _ HH.out.1).mono ?_; rintro e w' ⟨rfl, rfl⟩
  go_wp2
  go_ret
  exact ⟨rfl, rfl⟩
theorem new_any (w : World) : Calls Try.prog 5 #[] w fun e w' => ∃ N, e = .returned (.pointer (some ⟨N, 0, none⟩)) ∧ NetIs w' N w'.heap.size (.slice none 0 0) [] 0 ∧ w.heap.size ≤ N ∧ Below w.heap.size w w' := by
  have HB : Hid (Blk (w.alloc (.cells #[.bool true, .slice none 0 0, .int .i64 0] 53)) w.heap.size 53 #[.bool true, .slice none 0 0, .int .i64 0]) := Blk.new _ _ _
  go_enter Try.func5, Try.ntmps5
  go_wp2
  go_ret
  exact ⟨_, rfl, ⟨HB.out, World.ownsRow_nil _ _ _ _, by simp, by simp, Nat.le_refl _⟩, Nat.le_refl _, (Below.refl _ _).alloc (Nat.le_refl _) _⟩
end
end Go.Proofs.Ytiooikjaalphiaa
