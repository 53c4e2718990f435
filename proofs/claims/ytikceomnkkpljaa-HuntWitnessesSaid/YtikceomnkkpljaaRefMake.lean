/-
  The walk of harrierref12.Make, for what may be. No condition beyond that.
-/
import Derived.Test.YtikceomnkkpljaaMake
namespace Go.Proofs.Ytikceomnkkpljaa
open Go.ChangeShapes Go.WideShapes Go.ChangeAt Go.RowKit
set_option linter.unusedVariables false
set_option linter.unusedSimpArgs false

/-- The sixteen bytes, as they are laid. -/
def lay16 (p q d x0 x1 x2 x3 : Int) : Array Value := #[.int .u8 253, .int .u8 108, .int .u8 0, .int .u8 98, .int .u8 0, .int .u8 0, .int .u8 0, .int .u8 0, .int .u8 p, .int .u8 q, .int .u8 d, .int .u8 0, .int .u8 x0, .int .u8 x1, .int .u8 x2, .int .u8 x3]
def zeroA : Array Value := #[Value.int IntKind.u8 0, Value.int IntKind.u8 0, Value.int IntKind.u8 0, Value.int IntKind.u8 0, Value.int IntKind.u8 0, Value.int IntKind.u8 0, Value.int IntKind.u8 0, Value.int IntKind.u8 0, Value.int IntKind.u8 0, Value.int IntKind.u8 0, Value.int IntKind.u8 0, Value.int IntKind.u8 0, Value.int IntKind.u8 0, Value.int IntKind.u8 0, Value.int IntKind.u8 0, Value.int IntKind.u8 0]
def layI (p q d a0 a1 a2 a3 : Int) (i : Nat) : Array Value := lay16 p q d (if 0 < i then a0 else 0) (if 1 < i then a1 else 0) (if 2 < i then a2 else 0) (if 3 < i then a3 else 0)
theorem at_two {w : World} {g : Nat} {x y : Int} (h : At w ⟨g, 0, none⟩ [x, y]) : w.cell? ⟨g, 0, none⟩ = some (.int .u8 x) ∧ w.cell? ⟨g, 1, none⟩ = some (.int .u8 y) :=
  ⟨by have := h 0 _ rfl; rwa [Addr.add_mid] at this, by have := h 1 _ rfl; rwa [Addr.add_mid] at this⟩
theorem at_four {w : World} {g : Nat} {x y z t : Int} (h : At w ⟨g, 0, none⟩ [x, y, z, t]) : w.cell? ⟨g, 0, none⟩ = some (.int .u8 x) ∧ w.cell? ⟨g, 1, none⟩ = some (.int .u8 y) ∧ w.cell? ⟨g, 2, none⟩ = some (.int .u8 z) ∧ w.cell? ⟨g, 3, none⟩ = some (.int .u8 t) :=
  ⟨by have := h 0 _ rfl; rwa [Addr.add_mid] at this, by have := h 1 _ rfl; rwa [Addr.add_mid] at this, by have := h 2 _ rfl; rwa [Addr.add_mid] at this, by have := h 3 _ rfl; rwa [Addr.add_mid] at this⟩
theorem refMake_mid (w wa : World) (n d a : Int) (s0 : Nat) (x0 : wa.cell? ⟨s0, 0, none⟩ = some (.int .i64 n)) (x2 : wa.cell? ⟨s0, 2, none⟩ = some (.int .u32 a)) (hs : s0 < wa.heap.size) (hn : 0 ≤ n ∧ n ≤ 65535) (ha : 0 ≤ a ∧ a ≤ 4294967295) :
    (∀ W, Below wa.heap.size wa W → Calls Try.prog 40 #[.int .i64 n] W fun e w' => ∃ g c, e = .returned (.slice (some ⟨g, 0, none⟩) 2 c) ∧ (w'.cell? ⟨s0, 0, none⟩ = some (.int .i64 n) ∧ w'.cell? ⟨s0, 2, none⟩ = some (.int .u32 a)) ∧ Hid (Below wa.heap.size wa w' ∧ Below W.heap.size W w' ∧ At w' ⟨g, 0, none⟩ (by2 n) ∧ g < w'.heap.size ∧ wa.heap.size ≤ g)) ∧
    (∀ W, Below wa.heap.size wa W → Calls Try.prog 41 #[.int .u32 a] W fun e w' => ∃ g c, e = .returned (.slice (some ⟨g, 0, none⟩) 4 c) ∧ (w'.cell? ⟨s0, 0, none⟩ = some (.int .i64 n) ∧ w'.cell? ⟨s0, 2, none⟩ = some (.int .u32 a)) ∧ Hid (Below wa.heap.size wa w' ∧ Below W.heap.size W w' ∧ At w' ⟨g, 0, none⟩ (by4 a) ∧ g < w'.heap.size ∧ wa.heap.size ≤ g)) := by
  refine ⟨fun W hW => ?_, fun W hW => ?_⟩
  · refine (refTwo_any n W (by omega)).mono ?_
    rintro e w' ⟨v, rfl, h1, h2⟩
    obtain ⟨g, c, rfl, hg, hgl, hat⟩ := h1.at_ (by rw [by2_len]; omega)
    have hb : Below wa.heap.size wa w' := hW.trans (h2.mono hW.size)
    exact ⟨g, c, rfl, ⟨(hb.cell (p := ⟨s0, 0, none⟩) hs).trans x0, (hb.cell (p := ⟨s0, 2, none⟩) hs).trans x2⟩, hb, h2, hat, hgl, Nat.le_trans hW.size hg⟩
  · refine (four_any a W ha).mono ?_
    rintro e w' ⟨v, rfl, h1, h2⟩
    obtain ⟨g, c, rfl, hg, hgl, hat⟩ := h1.at_ (by show 0 < 4; omega)
    have hb : Below wa.heap.size wa w' := hW.trans (h2.mono hW.size)
    exact ⟨g, c, rfl, ⟨(hb.cell (p := ⟨s0, 0, none⟩) hs).trans x0, (hb.cell (p := ⟨s0, 2, none⟩) hs).trans x2⟩, hb, h2, hat, hgl, Nat.le_trans hW.size hg⟩
set_option maxHeartbeats 1600000 in
theorem refMake_any (n d a : Int) (w : World) (hn : 0 ≤ n ∧ n ≤ 65535) (hd : 0 ≤ d ∧ d ≤ 255) (ha : 0 ≤ a ∧ a ≤ 4294967295) :
    Calls Try.prog 34 #[.agg #[.int .i64 n, .int .i64 d, .int .u32 a]] w fun e w' => e = .returned (.tuple #[.agg (adrV n d a), .int .i64 0]) ∧ Below w.heap.size w w' := by
  have t1 : decide (n < 0) = false := by simp; omega
  have t2 : decide (65535 < n) = false := by simp; omega
  have t3 : decide (d < 0) = false := by simp; omega
  have t4 : decide (255 < d) = false := by simp; omega
  have ZL : Hid (zeroA.toList.length = 16) := rfl
  obtain ⟨wa, hwaE⟩ : ∃ wa, ((w.alloc (.cells #[.int .i64 n, .int .i64 d, .int .u32 a] 39)).alloc (.cells zeroA 34)).alloc (.cells (lay16 0 0 0 0 0 0 0) 34) = wa := ⟨_, rfl⟩
  have K0 : Hid (Blk wa w.heap.size 39 #[.int .i64 n, .int .i64 d, .int .u32 a]) := by unfold Hid; rw [← hwaE]; exact ((Blk.new w 39 _).more _).more _
  have K1 : Hid (Blk wa (w.heap.size + 1) 34 zeroA) := by unfold Hid; rw [← hwaE]; exact (Blk.newAt _ 34 _ _ (by simp)).more _
  have K2 : Hid (Blk wa (w.heap.size + 2) 34 (lay16 0 0 0 0 0 0 0)) := by unfold Hid; rw [← hwaE]; exact Blk.newAt _ 34 _ _ (by simp)
  have HB0 : Hid (Below w.heap.size w wa) := by unfold Hid; rw [← hwaE]; exact (((Below.refl _ _).alloc (Nat.le_refl _) _).alloc (by simp) _).alloc (by simp; omega) _
  have HSZ : Hid (wa.heap.size = w.heap.size + 3) := by unfold Hid; rw [← hwaE]; simp
  have hwaH := Lib.hid hwaE
  clear hwaE
  go_enter Try.func34, Try.ntmps34
  go_upto_region 5 with fail
  rw [show (((w.alloc (Obj.cells #[Value.int IntKind.i64 n, Value.int IntKind.i64 d, Value.int IntKind.u32 a] 39)).alloc (Obj.cells #[Value.int IntKind.u8 0, Value.int IntKind.u8 0, Value.int IntKind.u8 0, Value.int IntKind.u8 0, Value.int IntKind.u8 0, Value.int IntKind.u8 0, Value.int IntKind.u8 0, Value.int IntKind.u8 0, Value.int IntKind.u8 0, Value.int IntKind.u8 0, Value.int IntKind.u8 0, Value.int IntKind.u8 0, Value.int IntKind.u8 0, Value.int IntKind.u8 0, Value.int IntKind.u8 0, Value.int IntKind.u8 0] 34)).alloc (Obj.cells #[Value.int IntKind.u8 253, Value.int IntKind.u8 108, Value.int IntKind.u8 0, Value.int IntKind.u8 98, Value.int IntKind.u8 0, Value.int IntKind.u8 0, Value.int IntKind.u8 0, Value.int IntKind.u8 0, Value.int IntKind.u8 0, Value.int IntKind.u8 0, Value.int IntKind.u8 0, Value.int IntKind.u8 0, Value.int IntKind.u8 0, Value.int IntKind.u8 0, Value.int IntKind.u8 0, Value.int IntKind.u8 0] 34)) = wa from hwaH.out]
  have x0 : wa.cell? ⟨w.heap.size, 0, none⟩ = some (.int .i64 n) := (K0.out.cell 0).trans rfl
  have x2 : wa.cell? ⟨w.heap.size, 2, none⟩ = some (.int .u32 a) := (K0.out.cell 2).trans rfl
  have HM := Lib.hid (refMake_mid w wa n d a w.heap.size x0 x2 K0.out.lt hn ha)
  have P0 : Hid (Below wa.heap.size wa wa.drew) := (Below.refl _ _).drew
  go_cut [5, 6] (fun s5 s6 wx => ∃ g2 c2 g4 c4, s5 = .slice (some ⟨g2, 0, none⟩) 2 c2 ∧ s6 = .slice (some ⟨g4, 0, none⟩) 4 c4 ∧ Hid (Below wa.heap.size wa wx ∧ At wx ⟨g2, 0, none⟩ (by2 n) ∧ At wx ⟨g4, 0, none⟩ (by4 a) ∧ wa.heap.size ≤ g2 ∧ wa.heap.size ≤ g4))
  case first =>
    go_region_held3 (fun W => W.cell? ⟨w.heap.size, 0, none⟩ = some (.int .i64 n) ∧ W.cell? ⟨w.heap.size, 2, none⟩ = some (.int .u32 a)) (first | exact hq2 | exact hq1 | exact ⟨x0, x2⟩ | go_keep)
      (first
        | (go_at_call 40; with_reducible refine Calls.mono (HM.out.1 wa.drew P0.out) ?_; rintro e w2 ⟨g2, c2, rfl, hq1, P2⟩; have Q2 := Lib.hid P2.out.1)
        | (go_at_call 41; with_reducible refine Calls.mono (HM.out.2 wa.drew P0.out) ?_; rintro e w4 ⟨g4, c4, rfl, hq1, P4⟩; have Q4 := Lib.hid P4.out.1)
        | (go_at_call 41; with_reducible refine Calls.mono (HM.out.2 w2 Q2.out) ?_; rintro e w4 ⟨g4, c4, rfl, hq2, P4⟩; have Q2' := Lib.hid (P2.out.2.2.1.later (by exact P2.out.2.2.2.1) P4.out.2.1))
        | (go_at_call 40; with_reducible refine Calls.mono (HM.out.1 w4 Q4.out) ?_; rintro e w2 ⟨g2, c2, rfl, hq2, P2⟩; have Q4' := Lib.hid (P4.out.2.2.1.later (by exact P4.out.2.2.2.1) P2.out.2.1))
        | fail)
    all_goals
      go_wp2_with fail
      go_meet
      first
        | exact ⟨g2, c2, g4, c4, rfl, rfl, P4.out.1, Q2'.out, P4.out.2.2.1, P2.out.2.2.2.2, P4.out.2.2.2.2⟩
        | exact ⟨g2, c2, g4, c4, rfl, rfl, P2.out.1, P2.out.2.2.1, Q4'.out, P2.out.2.2.2.2, P4.out.2.2.2.2⟩
  case rest =>
    obtain ⟨g2, c2, g4, c4, rfl, rfl, HI⟩ := hcut
    clear x0 x2 HM P0
    have L1 := K0.out.lt
    have J0 := K0.out.below HI.out.1 L1
    have L2 := K2.out.lt
    have J2 := K2.out.below HI.out.1 L2
    have x1 : wc.cell? ⟨w.heap.size, 1, none⟩ = some (.int .i64 d) := (J0.cell 1).trans rfl
    have y8 : wc.cell? ⟨w.heap.size + 1 + 1, 8, none⟩ = some (.int .u8 0) := (J2.cell 8).trans rfl
    have y9 : wc.cell? ⟨w.heap.size + 1 + 1, 9, none⟩ = some (.int .u8 0) := (J2.cell 9).trans rfl
    have y10 : wc.cell? ⟨w.heap.size + 1 + 1, 10, none⟩ = some (.int .u8 0) := (J2.cell 10).trans rfl
    have f8 := J2.free 8
    have f9 := J2.free 9
    have f10 := J2.free 10
    obtain ⟨p, hp⟩ : ∃ p, n / 256 % 256 = p := ⟨_, rfl⟩
    obtain ⟨q, hq⟩ : ∃ q, n % 256 = q := ⟨_, rfl⟩
    obtain ⟨v0, v1⟩ := at_two HI.out.2.1
    rw [hp] at v0
    rw [hq] at v1
    have HP := Lib.hid hp
    have HQ := Lib.hid hq
    have J2H := Lib.hid J2
    have hd8 : IntKind.u8.wrap d = d := IntWalk.u8_in d hd
    clear hp hq J0 J2
    have hg2 := HI.out.2.2.2.1
    have hg4 := HI.out.2.2.2.2
    rw [HSZ.out] at hg2 hg4
    have HBT : Hid (Below (w.heap.size + 2) wa wc) := HI.out.1.mono (by rw [HSZ.out]; omega)
    have n1 : ¬ g2 = w.heap.size + 1 + 1 := by omega
    have n2 : ¬ w.heap.size + 1 + 1 = g2 := by omega
    have n4 : g4 ≠ w.heap.size + 1 + 1 := by omega
    go_upto_region 6 with fail
    go_cut [36] (fun s36 wx => Hid (Blk wx (w.heap.size + 2) 34 (lay16 p q d 0 0 0 0) ∧ At wx ⟨g4, 0, none⟩ (by4 a) ∧ Below (w.heap.size + 2) wa wx))
    case first =>
      go_region
      all_goals
        go_wp2_with fail
        go_meet
        refine ⟨(((J2H.out.put 8 (.int .u8 p) rfl).put 9 (.int .u8 q) rfl).put 10 (.int .u8 d) rfl).draw, fun j u hj => ?_, ((((HBT.out).setCell (Nat.le_refl _) _).setCell (Nat.le_refl _) _).setCell (Nat.le_refl _) _).drew⟩
        have h9 := HI.out.2.2.1 j u hj
        rw [Addr.add_mid] at h9 ⊢
        rw [← h9]
        exact World.cell?_of_block (((heap_setCell_other _ _ _ _ n4).trans (heap_setCell_other _ _ _ _ n4)).trans (heap_setCell_other _ _ _ _ n4))
    case rest =>
      have HR := Lib.hid hcut
      clear hcut x1 y8 y9 y10 f8 f9 f10 v0 v1 HI J2H
      obtain ⟨a0, a1, a2, a3, hae⟩ : ∃ a0 a1 a2 a3, by4 a = [a0, a1, a2, a3] := ⟨_, _, _, _, rfl⟩
      have HR2 : Hid (Blk wc (w.heap.size + 2) 34 (layI p q d a0 a1 a2 a3 0) ∧ At wc ⟨g4, 0, none⟩ [a0, a1, a2, a3] ∧ Below (w.heap.size + 2) wa wc) := by
        have := HR.out
        rw [hae] at this
        exact this
      have HA := Lib.hid hae
      clear hae HR
      have n5 : ¬ g4 = w.heap.size + 1 + 1 := n4
      have n6 : ¬ w.heap.size + 1 + 1 = g4 := by omega
      go_wp2_with fail
      go_loopg [7] 5 (fun gk s7 wr => ∃ i : Nat, s7 = .int .i64 i ∧ gk + i = 5 ∧ i ≤ 4 ∧ Hid (Blk wr (w.heap.size + 2) 34 (layI p q d a0 a1 a2 a3 i) ∧ At wr ⟨g4, 0, none⟩ [a0, a1, a2, a3] ∧ Below (w.heap.size + 2) wa wr))
      case atStart => exact ⟨0, rfl, rfl, by omega, HR2.out⟩
      case round =>
        obtain ⟨i, rfl, hgi, hi4, HI⟩ := hrel
        clear HR2
        by_cases hlt : i < 4
        · obtain ⟨w0, w1, w2, w3⟩ := at_four HI.out.2.1
          have c12 : wr.cell? ⟨w.heap.size + 1 + 1, 12, none⟩ = some (.int .u8 (if 0 < i then a0 else 0)) := (HI.out.1.cell 12).trans rfl
          have c13 : wr.cell? ⟨w.heap.size + 1 + 1, 13, none⟩ = some (.int .u8 (if 1 < i then a1 else 0)) := (HI.out.1.cell 13).trans rfl
          have c14 : wr.cell? ⟨w.heap.size + 1 + 1, 14, none⟩ = some (.int .u8 (if 2 < i then a2 else 0)) := (HI.out.1.cell 14).trans rfl
          have c15 : wr.cell? ⟨w.heap.size + 1 + 1, 15, none⟩ = some (.int .u8 (if 3 < i then a3 else 0)) := (HI.out.1.cell 15).trans rfl
          have f12 : wr.frozen? ⟨w.heap.size + 1 + 1, 12, none⟩ = false := HI.out.1.free 12
          have f13 : wr.frozen? ⟨w.heap.size + 1 + 1, 13, none⟩ = false := HI.out.1.free 13
          have f14 : wr.frozen? ⟨w.heap.size + 1 + 1, 14, none⟩ = false := HI.out.1.free 14
          have f15 : wr.frozen? ⟨w.heap.size + 1 + 1, 15, none⟩ = false := HI.out.1.free 15
          have HN : Hid (∀ ai, [a0, a1, a2, a3].getD i 0 = ai → Blk (wr.setCell ⟨w.heap.size + 1 + 1, 12 + i, none⟩ (.int .u8 ai)) (w.heap.size + 2) 34 (layI p q d a0 a1 a2 a3 (i + 1)) ∧ At (wr.setCell ⟨w.heap.size + 1 + 1, 12 + i, none⟩ (.int .u8 ai)) ⟨g4, 0, none⟩ [a0, a1, a2, a3] ∧ Below (w.heap.size + 2) wa (wr.setCell ⟨w.heap.size + 1 + 1, 12 + i, none⟩ (.int .u8 ai))) := by
            intro ai hai
            refine ⟨HI.out.1.put (12 + i) (.int .u8 ai) ?_, fun j u hj => ?_, HI.out.2.2.setCell (Nat.le_refl _) _⟩
            · rcases (show i = 0 ∨ i = 1 ∨ i = 2 ∨ i = 3 by omega) with rfl | rfl | rfl | rfl <;> (rw [← hai]; rfl)
            · have h9 := HI.out.2.1 j u hj
              rw [Addr.add_mid] at h9 ⊢
              rw [← h9]
              exact World.cell?_of_block (heap_setCell_other _ _ _ _ n4)
          clear HI
          rcases (show i = 0 ∨ i = 1 ∨ i = 2 ∨ i = 3 by omega) with rfl | rfl | rfl | rfl
          · go_wp2_with fail
            go_roundg (gk - 1)
            case rel => exact ⟨1, rfl, by omega, by omega, HN.out a0 rfl⟩
            case measure => omega
          · go_wp2_with fail
            go_roundg (gk - 1)
            case rel => exact ⟨2, rfl, by omega, by omega, HN.out a1 rfl⟩
            case measure => omega
          · go_wp2_with fail
            go_roundg (gk - 1)
            case rel => exact ⟨3, rfl, by omega, by omega, HN.out a2 rfl⟩
            case measure => omega
          · go_wp2_with fail
            go_roundg (gk - 1)
            case rel => exact ⟨4, rfl, by omega, by omega, HN.out a3 rfl⟩
            case measure => omega
        · obtain rfl : i = 4 := by omega
          have K4 := HI.out.1
          have hcs : layI p q d a0 a1 a2 a3 4 = adrV n d a := by
            show lay16 p q d a0 a1 a2 a3 = _
            have h1 := HP.out
            have h2 := HQ.out
            have h3 := HA.out
            unfold adrV adrL
            rw [h3, show by2 n = [p, q] by unfold by2; rw [h1, h2]]
            rfl
          rw [hcs] at K4
          have KR : Hid (Blk wr (w.heap.size + 1) 34 zeroA) := K1.out.below HI.out.2.2 (by omega)
          have KT := Lib.hid K4
          obtain ⟨cs, hce⟩ : ∃ cs, adrV n d a = cs := ⟨_, rfl⟩
          have hi34 : Hid ((Try.prog.info? 34).map (·.size) = some cs.size) := by unfold Hid; rw [← hce]; exact size34
          have hold : Hid (zeroA.size = cs.size) := by unfold Hid; rw [← hce]; rfl
          have hall : Hid (cs.all (·.oneCell') = true) := by unfold Hid; rw [← hce]; unfold adrV; simpa using u8s_one
          have hBB : Hid (Below w.heap.size w wr) := HB0.out.trans (HI.out.2.2.mono (by omega))
          rw [hce] at KT
          have HCE := Lib.hid hce
          clear K4 hcs hce HI
          go_wp2_with (first
            | (refine wpList_load_row rfl 34 _ rfl (w.heap.size + 1 + 1) rfl 34 cs (0, 0) _ KT.out Try.underlying34 rfl hi34.out ?_)
            | (refine wpList_store_row rfl 34 _ _ rfl (w.heap.size + 1) cs rfl rfl 34 zeroA KR.out hi34.out hold.out hall.out ?_)
            | fail)
          refine bodyPost_ret (results_cell_tmp' rfl _ _ (w.heap.size + 1) 34 cs _ _ rfl (setRow_heap wr _ zeroA cs 34 (0, 0) KR.out) Try.underlying34 rfl hi34.out) rfl ?_
          exact ⟨by rw [← HCE.out]; rfl, below_setRow hBB.out (by omega) _⟩
end Go.Proofs.Ytikceomnkkpljaa
