/-
  The walks of may, Mod, Offset, Skip and of the iterator steps. No condition.
-/
import Derived.RangeFuncNested
import Derived.RangeFuncBound
import Derived.RangeFuncCalls
import Derived.RangeFuncLeaves
import Derived.RangeFuncBox
import Derived.Shelf.Abstract
import Derived.Shelf.RegionOpen
import Derived.WalkKit
import Derived.OwnWalkIn
import Derived.TacticsInMore
import Derived.LoopNIn
import Derived.LoopIn
import Derived.Maps.AppendAt
import Derived.ControlIn
import Derived.Deep.DeepCutAuto
import Derived.Test.YtgpdenhgbipopaaPairs
import Derived.Test.YtgpdenhgbipopaaPrimes
namespace Go.Proofs.Ytgpdenhgbipopaa
open Go.ChangeShapes Go.WideShapes Go.ChangeAt Go.RowKit Go.Shelf
set_option linter.unusedVariables false
set_option linter.unusedSimpArgs false

def mayI (m : Int) : Bool := decide (2 ≤ m ∧ m ≤ 1000)
theorem may_any (m : Int) (w : World) : Calls Try.prog 14 #[.int .i64 m] w fun e w' => e = .returned (.bool (mayI m)) ∧ w = w' := by
  by_cases h : 2 ≤ m
  · have h2 : decide (2 ≤ m) = true := by simpa using h
    go_enter Try.func14, Try.ntmps14
    go_wp2
    go_ret
    exact ⟨ret_bool (by simp [mayI, h]), rfl⟩
  · have h2 : decide (2 ≤ m) = false := by simpa using h
    go_enter Try.func14, Try.ntmps14
    go_wp2
    go_ret
    exact ⟨ret_bool (by simp [mayI]; omega), rfl⟩
/-- Where a backend begins, and how far it steps. -/
def offI (x y a m : Int) : Int := sumI x y (pbytes a 1) % m
def skipI (x y a m : Int) : Int := sumI x y (pbytes a 2) % (m - 1) + 1
theorem md_pos {u m : Int} (h : 1 ≤ m) : md u m = u % m := by unfold md; rw [if_neg (by omega)]
theorem off_rng {x y a m : Int} (h : 2 ≤ m) : 0 ≤ offI x y a m ∧ offI x y a m < m := ⟨Int.emod_nonneg _ (by omega), Int.emod_lt_of_pos _ (by omega)⟩
theorem skip_rng {x y a m : Int} (h : 2 ≤ m) : 1 ≤ skipI x y a m ∧ skipI x y a m < m := by
  unfold skipI
  have h1 := Int.emod_nonneg (sumI x y (pbytes a 2)) (show m - 1 ≠ 0 by omega)
  have h2 := Int.emod_lt_of_pos (sumI x y (pbytes a 2)) (show 0 < m - 1 by omega)
  omega
theorem offset_any (x y a m : Int) (w : World) : Calls Try.prog 8 #[.agg #[.int .u64 x, .int .u64 y], .int .i64 a, .int .i64 m] w fun e w' => e = .returned (.int .i64 (if mayI m = true then offI x y a m else 0)) ∧ Below w.heap.size w w' := by
  have HB0 : Hid (Below w.heap.size w (w.alloc (.cells #[.int .u64 x, .int .u64 y] 24))) := (Below.refl _ _).alloc (Nat.le_refl _) _
  have hs := sum_range x y (pbytes a 1)
  by_cases hm : mayI m = true
  · rw [if_pos hm]
    have h2 : 2 ≤ m ∧ m ≤ 1000 := by simpa [mayI] using hm
    have e1 : Hid (md (sumI x y (pbytes a 1)) m = offI x y a m) := md_pos (by omega)
    have HP := Lib.hid (fun W => pair_any x y a 1 W)
    generalize sumI x y (pbytes a 1) = u at *
    have HM := Lib.hid hm
    clear hm
    go_enter Try.func8, Try.ntmps8
    go_wp2_with (go_at_call 14; refine (may_any _ _).mono ?_; rintro e w' ⟨rfl, rfl⟩; rw [HM.out])
    refine (HP.out _).mono ?_; rintro e w1 ⟨rfl, h1⟩
    have H1 := Lib.hid h1
    clear h1
    go_wp2_with (go_at_call 16; refine (mod_any u m _ hs (by omega)).mono ?_; rintro e w' ⟨rfl, rfl⟩; rw [e1.out])
    go_ret
    exact ⟨rfl, HB0.out.trans (H1.out.mono HB0.out.size)⟩
  · rw [if_neg hm]
    have hm : mayI m = false := by simpa using hm
    have HM := Lib.hid hm
    clear hm
    go_enter Try.func8, Try.ntmps8
    go_wp2_with (go_at_call 14; refine (may_any _ _).mono ?_; rintro e w' ⟨rfl, rfl⟩; rw [HM.out])
    go_ret
    exact ⟨rfl, HB0.out⟩
theorem skip_any (x y a m : Int) (w : World) : Calls Try.prog 9 #[.agg #[.int .u64 x, .int .u64 y], .int .i64 a, .int .i64 m] w fun e w' => e = .returned (.int .i64 (if mayI m = true then skipI x y a m else 0)) ∧ Below w.heap.size w w' := by
  have HB0 : Hid (Below w.heap.size w (w.alloc (.cells #[.int .u64 x, .int .u64 y] 24))) := (Below.refl _ _).alloc (Nat.le_refl _) _
  have hs := sum_range x y (pbytes a 2)
  by_cases hm : mayI m = true
  · rw [if_pos hm]
    have h2 : 2 ≤ m ∧ m ≤ 1000 := by simpa [mayI] using hm
    have e1 : Hid (md (sumI x y (pbytes a 2)) (m - 1) = skipI x y a m - 1) := by unfold Hid; rw [md_pos (by omega)]; unfold skipI; omega
    have hk := skip_rng (x := x) (y := y) (a := a) h2.1
    have HP := Lib.hid (fun W => pair_any x y a 2 W)
    generalize sumI x y (pbytes a 2) = u at *
    generalize skipI x y a m = k at *
    have HM := Lib.hid hm
    clear hm
    go_enter Try.func9, Try.ntmps9
    go_wp2_with (go_at_call 14; refine (may_any _ _).mono ?_; rintro e w' ⟨rfl, rfl⟩; rw [HM.out])
    refine (HP.out _).mono ?_; rintro e w1 ⟨rfl, h1⟩
    have H1 := Lib.hid h1
    clear h1
    go_wp2_with (go_at_call 16; refine (mod_any u (m - 1) _ hs (by omega)).mono ?_; rintro e w' ⟨rfl, rfl⟩; rw [e1.out])
    go_ret
    exact ⟨ret_int (by omega), HB0.out.trans (H1.out.mono HB0.out.size)⟩
  · rw [if_neg hm]
    have hm : mayI m = false := by simpa using hm
    have HM := Lib.hid hm
    clear hm
    go_enter Try.func9, Try.ntmps9
    go_wp2_with (go_at_call 14; refine (may_any _ _).mono ?_; rintro e w' ⟨rfl, rfl⟩; rw [HM.out])
    go_ret
    exact ⟨rfl, HB0.out⟩

attribute [local go_sem] Oper.semAt_some
/-- The slot that comes at place i. -/
def slotI (o k m : Int) (i : Nat) : Int := (o + i * k) % m
def slots (o k m : Int) (j : Nat) : List Int := (List.range j).map (slotI o k m)
theorem slots_snoc (o k m : Int) (j : Nat) : slots o k m (j + 1) = slots o k m j ++ [slotI o k m j] := by simp [slots, List.range_succ]
theorem slots_len (o k m : Int) (j : Nat) : (slots o k m j).length = j := by simp [slots]
theorem slots_pre (o k m : Int) {i j : Nat} (h : i ≤ j) : slots o k m i <+: slots o k m j := by
  unfold slots
  obtain ⟨d, rfl⟩ : ∃ d, j = i + d := ⟨j - i, by omega⟩
  rw [List.range_add, List.map_append]
  exact List.prefix_append _ _
theorem slot_next (o k m : Int) (j : Nat) : (slotI o k m j + k) % m = slotI o k m (j + 1) := by
  unfold slotI
  rw [Int.emod_add_emod]
  congr 1
  have : ((j + 1 : Nat) : Int) = (j : Int) + 1 := by omega
  rw [this, Int.add_mul]
  omega
theorem steps_any (o k m : Int) (w : World) : Calls Try.prog 15 #[.int .i64 o, .int .i64 k, .int .i64 m] w fun e w' => e = .returned (.func (.func 20) #[] #[.pointer (some ⟨w.heap.size, 0, none⟩), .pointer (some ⟨w.heap.size + 2, 0, none⟩), .pointer (some ⟨w.heap.size + 1, 0, none⟩)]) ∧
    w' = ((w.alloc (.cells #[.int .i64 o] 3)).alloc (.cells #[.int .i64 k] 3)).alloc (.cells #[.int .i64 m] 3) := by
  go_enter Try.func15, Try.ntmps15
  go_wp2
  go_ret
  exact ⟨rfl, rfl⟩
theorem row_base {W : World} {B B' : Nat} {e : TypeId} {size n : Nat} {v : Value} {xs : List Value} (h : W.ownsRow B e size v n xs) (hb : B' ≤ B) : W.ownsRow B' e size v n xs :=
  ⟨h.1, h.2.imp id fun ⟨g, cap, cur, h1, h2, h3⟩ => ⟨g, cap, cur, h1, Nat.le_trans hb h2, h3⟩⟩
theorem app2 {W w1 : World} {n₀ B B1 : Nat} {t e : TypeId} {size : Nat} {v v' : Value} {k m : Nat} {xs ys : List Value} {tmp : Obj}
    (hv : Boxed W B t v) (hte : t ≠ e) (hrow : W.ownsRow n₀ e size v k xs) (hn₀ : n₀ ≤ W.heap.size) (hB : B1 ≤ B) (hB1 : B1 ≤ n₀)
    (hown' : w1.ownsRow n₀ e size v' m ys) (hgrow : (W.alloc tmp).grownBy w1 v.ownBlock) :
    Boxed w1 B t v ∧ Boxed (w1.setCell ⟨B, 0, none⟩ v') B t v' ∧ (w1.setCell ⟨B, 0, none⟩ v').ownsRow n₀ e size v' m ys ∧ KeepsOthers W (w1.setCell ⟨B, 0, none⟩ v') ∧ Below B1 W (w1.setCell ⟨B, 0, none⟩ v') := by
  obtain ⟨r1, r2, r3, r4, r5⟩ := Boxed.appended hv hte (row_base hrow hB1) (Nat.le_trans hB1 hn₀) hB (row_base hown' hB1) hgrow
  exact ⟨r1, r2, hown'.kept (grownBy_setCell' w1 B v') (.inr (r1.not_row hte hown').symm), r4, r5⟩
theorem var_slice {P : Addr} {v : Value} (W : World) (h : W.cell? P = some v) : (loadVar 25 P).run Try.prog W = .ok v W := by
  simp [go_sem, loadVar, Try.underlying25, TypeDesc.isRow, h]
/-- What a round of ours keeps: the two cells that the iterator reads. -/
def Kept2 (b2 b3 : Nat) (A B : World) : Prop := B.heap[b2]? = A.heap[b2]? ∧ B.heap[b3]? = A.heap[b3]?
theorem Kept2.trans {b2 b3 : Nat} {A B C : World} (h : Kept2 b2 b3 A B) (k : Kept2 b2 b3 B C) : Kept2 b2 b3 A C := ⟨k.1.trans h.1, k.2.trans h.2⟩
theorem kept_append {W w1 : World} {b ob B0 : Nat} {e : TypeId} {size n : Nat} {v v' : Value} {xs : List Value} {o : Obj} (hb : b < W.heap.size) (hB : b < B0) (hne : b ≠ ob) (hr : W.ownsRow B0 e size v n xs) (hg : (W.alloc o).grownBy w1 v.ownBlock) :
    (w1.setCell ⟨ob, 0, none⟩ v').heap[b]? = W.heap[b]? := by
  rw [heap_setCell_other w1 ⟨ob, 0, none⟩ b v' hne, hg.block b (by simp; omega) (fun e => by have := (hr.lt b e.symm).1; omega)]
  exact Below.heap_alloc W o b hb

set_option maxRecDepth 100000 in
set_option maxHeartbeats 1000000 in
/-- The iterator's body, at every loop body that keeps what lay below n₀. -/
theorem steps_in (F : Fence) (n : Nat) (h6 : F.fn 20) (hro : F.round = none) (hn : 1 ≤ n) (l b1 b2 b3 : Nat) (o k : Int) (m : Nat) (J Jx : List Int → World → Prop)
    (ho : 0 ≤ o ∧ o < m) (hk : 0 ≤ k ∧ k < m) (hm : 2 ≤ m ∧ m ≤ 1000)
    (hY : ∀ pre x W, J pre W → pre.length < m → YieldAt F (n - 1) Try.prog l #[.int .i64 x] W fun e W' =>
      (e = .returned (.bool true) ∧ J (pre ++ [x]) W' ∧ Kept2 b2 b3 W W') ∨ (e = .returned (.bool false) ∧ Jx (pre ++ [x]) W'))
    (W : World) (c1 : W.cell? ⟨b1, 0, none⟩ = some (.int .i64 o)) (c2 : W.cell? ⟨b2, 0, none⟩ = some (.int .i64 (m : Int))) (c3 : W.cell? ⟨b3, 0, none⟩ = some (.int .i64 k)) (h0 : J [] W) :
    CallsIn F n Try.prog 20 #[.func (.yield l) #[] #[], .pointer (some ⟨b1, 0, none⟩), .pointer (some ⟨b2, 0, none⟩), .pointer (some ⟨b3, 0, none⟩)] W fun e W' => (∃ v, e = .returned v) ∧
      ((∃ ys, ys = slots o k m m ∧ J ys W') ∨ (∃ pre, pre <+: slots o k m m ∧ Jx pre W')) := by
  refine callsIn_of_wp Try.func20 rfl h6 ?_ hro
  simp only [Try.ntmps20, List.size_toArray, List.length_cons, List.length_nil, Nat.reduceAdd, Nat.reduceSub, Array.replicate_succ, Array.replicate_zero, List.push_toArray, List.append_toArray, List.nil_append, List.cons_append]
  gi_wp2
  have HYY := Lib.hid hY
  have HH0 := Lib.hid h0
  clear hY h0
  gi_loopw [5, 8] (fun s5 s8 wr => ∃ j : Nat, s5 = .int .i64 (slotI o k m j) ∧ s8 = .int .i64 (j : Int) ∧ j ≤ m ∧ wr.cell? ⟨b2, 0, none⟩ = some (.int .i64 (m : Int)) ∧ wr.cell? ⟨b3, 0, none⟩ = some (.int .i64 k) ∧ Hid (J (slots o k m j) wr))
    (fun s5 s8 wr => m - (intOf s8).toNat)
  case atStart =>
    refine ⟨0, ?_, rfl, by omega, c2, c3, HH0.out⟩
    unfold slotI
    rw [show o + ((0 : Nat) : Int) * k = o by omega, Int.emod_eq_of_lt ho.1 ho.2]
  case round =>
    obtain ⟨j, rfl, rfl, hjm, d2, d3, HJ⟩ := hrel
    by_cases hlt : j < m
    · obtain ⟨fn, tmps, assign, body, hy, hR⟩ := HYY.out (slots o k m j) (slotI o k m j) wr HJ.out (by rw [slots_len]; exact hlt)
      have hs1 : 0 ≤ slotI o k m j := Int.emod_nonneg _ (by omega)
      have hs2 : slotI o k m j < m := Int.emod_lt_of_pos _ (by omega)
      have HN := Lib.hid (slot_next o k m j)
      have HSN := Lib.hid (slots_snoc o k m j)
      generalize slotI o k m j = s at *
      gi_wp2
      refine hR.mono ?_
      rintro e W3 (⟨rfl, hJ3, hk3⟩ | ⟨rfl, hJx3⟩)
      · have e2 : W3.cell? ⟨b2, 0, none⟩ = some (.int .i64 (m : Int)) := (World.cell?_of_block (a := ⟨b2, 0, none⟩) hk3.1).trans d2
        have e3 : W3.cell? ⟨b3, 0, none⟩ = some (.int .i64 k) := (World.cell?_of_block (a := ⟨b3, 0, none⟩) hk3.2).trans d3
        have HJ3 := Lib.hid hJ3
        clear hJ3 hk3 d2 d3
        gi_wp2
        go_roundw
        case rel => exact ⟨j + 1, by rw [← HN.out], by go_num, by omega, e2, e3, by rw [HSN.out]; exact HJ3.out⟩
        case measure => simp [intOf]; omega
      · gi_wp2
        refine bodyPost_ret (results_none rfl _ _ _) rfl ?_
        refine ⟨⟨_, rfl⟩, .inr ⟨_, ?_, hJx3⟩⟩
        rw [← HSN.out]
        exact slots_pre o k m (by omega)
    · obtain rfl : j = m := by omega
      gi_wp2
      go_end0
      exact ⟨⟨_, rfl⟩, .inl ⟨_, rfl, HJ.out⟩⟩
/-- What the iterator's value captures, in a world. -/
def Steps (o k : Int) (m : Nat) (B b1 b2 b3 : Nat) (W : World) : Prop := B ≤ b1 ∧ B ≤ b2 ∧ B ≤ b3 ∧ b1 < W.heap.size ∧ b2 < W.heap.size ∧ b3 < W.heap.size ∧ W.cell? ⟨b1, 0, none⟩ = some (.int .i64 o) ∧ W.cell? ⟨b2, 0, none⟩ = some (.int .i64 (m : Int)) ∧ W.cell? ⟨b3, 0, none⟩ = some (.int .i64 k)
/-- steps HANDS BACK A VALUE THAT STOPS: all the slots, in order. -/
theorem steps_stops (F : Fence) (n : Nat) (h6 : F.fn 20) (hro : F.round = none) (hn : 1 ≤ n) (B b1 b2 b3 : Nat) (o k : Int) (m : Nat) (ho : 0 ≤ o ∧ o < m) (hk : 0 ≤ k ∧ k < m) (hm : 2 ≤ m ∧ m ≤ 1000) (w : World) (hs : Steps o k m B b1 b2 b3 w) :
    SeqStopsK F n Try.prog 20 #[.pointer (some ⟨b1, 0, none⟩), .pointer (some ⟨b2, 0, none⟩), .pointer (some ⟨b3, 0, none⟩)] (fun x : Int => #[Value.int .i64 x]) (Kept2 b2 b3) (fun ys => ys = slots o k m m) (fun pre => pre <+: slots o k m m) m w := fun l J Jx W hW _ _ hY h0 =>
  steps_in F n h6 hro hn l b1 b2 b3 o k m J Jx ho hk hm hY W ((hW.cell (p := ⟨b1, 0, none⟩) hs.2.2.2.1).trans hs.2.2.2.2.2.2.1) ((hW.cell (p := ⟨b2, 0, none⟩) hs.2.2.2.2.1).trans hs.2.2.2.2.2.2.2.1) ((hW.cell (p := ⟨b3, 0, none⟩) hs.2.2.2.2.2.1).trans hs.2.2.2.2.2.2.2.2) h0
theorem info3 : (Try.prog.info? 3).map (fun i => (i.zero, i.size, i.bytes)) = some (some (.int .i64 0), 1, 8) := by kernel_rfl
def izs (zs : List Int) : List Value := zs.map (Value.int .i64)
theorem of_not (x y a m : Int) (w : World) (h : mayI m = false) : Calls Try.prog 7 #[.agg #[.int .u64 x, .int .u64 y], .int .i64 a, .int .i64 m] w fun e w' => e = .returned (.slice none 0 0) ∧ Below w.heap.size w w' := by
  have HM := Lib.hid h
  have HB0 : Hid (Below w.heap.size w (w.alloc (.cells #[.int .u64 x, .int .u64 y] 24))) := (Below.refl _ _).alloc (Nat.le_refl _) _
  clear h
  refine (callsIn_wide (n := 4)).1 ?_
  refine callsIn_of_wp_marks Try.func7 rfl trivial ?_ rfl
  simp only [Try.ntmps7, List.size_toArray, List.length_cons, List.length_nil, Nat.reduceAdd, Nat.reduceSub, Array.replicate_succ, Array.replicate_zero, List.push_toArray, List.append_toArray, List.nil_append, List.cons_append]
  refine (wpIn_wide).2 ?_
  go_wp2_with (go_at_call 14; refine (may_any _ _).mono ?_; rintro e w' ⟨rfl, rfl⟩; rw [HM.out])
  exact ⟨_, results_tmp rfl _ _ _, rfl, HB0.out⟩
theorem steps_to (o k : Int) (m : Nat) (w : World) (B : Nat) (hB : B ≤ w.heap.size) : Calls Try.prog 15 #[.int .i64 o, .int .i64 k, .int .i64 m] w fun e w' => ∃ b1 b2 b3, e = .returned (.func (.func 20) #[] #[.pointer (some ⟨b1, 0, none⟩), .pointer (some ⟨b2, 0, none⟩), .pointer (some ⟨b3, 0, none⟩)]) ∧ Steps o k m B b1 b2 b3 w' ∧ Below w.heap.size w w' := by
  refine (steps_any o k m w).mono ?_
  rintro e w' ⟨rfl, rfl⟩
  have h1 := ((Blk.new w 3 #[.int .i64 o]).more (.cells #[.int .i64 k] 3)).more (.cells #[.int .i64 (m : Int)] 3)
  have h2 := (Blk.newAt (w.alloc (.cells #[.int .i64 o] 3)) 3 #[.int .i64 k] (w.heap.size + 1) (by simp)).more (.cells #[.int .i64 (m : Int)] 3)
  have h3 := Blk.newAt ((w.alloc (.cells #[.int .i64 o] 3)).alloc (.cells #[.int .i64 k] 3)) 3 #[.int .i64 (m : Int)] (w.heap.size + 2) (by simp)
  exact ⟨_, _, _, rfl, ⟨hB, by omega, by omega, h1.lt, h3.lt, h2.lt, h1.cell 0, h3.cell 0, h2.cell 0⟩, (((Below.refl _ _).alloc (Nat.le_refl _) _).alloc (by simp) _).alloc (by simp; omega) _⟩

attribute [-go_sem] loadVar in
set_option maxRecDepth 100000 in
set_option maxHeartbeats 2000000 in
theorem of_any (x y a : Int) (m : Nat) (w : World) (hm : 2 ≤ m ∧ m ≤ 1000) : Calls Try.prog 7 #[.agg #[.int .u64 x, .int .u64 y], .int .i64 a, .int .i64 m] w fun e w' => ∃ v, e = .returned v ∧ w'.ownsRow w.heap.size 3 1 v m (izs (slots (offI x y a m) (skipI x y a m) m m)) ∧ Below w.heap.size w w' := by
  have hmay : mayI m = true := by simp [mayI]; omega
  have HM := Lib.hid hmay
  have x0 : (((w.alloc (.cells #[.int .u64 x, .int .u64 y] 24)).alloc (.cells #[.slice none 0 0] 25)).drew).rangeAt w.heap.size 0 #[Value.int .u64 x, Value.int .u64 y].toList := range_of (((Blk.new w 24 _).more _).draw)
  have v0 : ∀ W : World, W.rangeAt w.heap.size 0 #[Value.int .u64 x, Value.int .u64 y].toList → (loadVar 24 ⟨w.heap.size, 0, none⟩).run Try.prog W = .ok (.agg #[Value.int .u64 x, Value.int .u64 y]) W := fun W hr => var_of Try.underlying24 rfl size24 rfl W hr
  obtain ⟨K, hK⟩ : ∃ K, #[Value.int .u64 x, Value.int .u64 y].toList = K := ⟨_, rfl⟩
  rw [hK] at x0 v0
  have HB0 : Hid (Below w.heap.size w ((w.alloc (.cells #[.int .u64 x, .int .u64 y] 24)).alloc (.cells #[.slice none 0 0] 25))) := ((Below.refl _ _).alloc (Nat.le_refl _) _).alloc (by simp) _
  have HBX : Hid (Boxed ((w.alloc (.cells #[.int .u64 x, .int .u64 y] 24)).alloc (.cells #[.slice none 0 0] 25)) (w.heap.size + 1) 25 (.slice none 0 0)) := by
    have := Boxed.new (w.alloc (.cells #[.int .u64 x, .int .u64 y] 24)) 25 (.slice none 0 0)
    rw [World.size_alloc] at this
    exact this
  have hwa : ((w.alloc (.cells #[.int .u64 x, .int .u64 y] 24)).alloc (.cells #[.slice none 0 0] 25)).heap.size = w.heap.size + 2 := by simp
  have ho := off_rng (x := x) (y := y) (a := a) (m := m) (by omega)
  have hk := skip_rng (x := x) (y := y) (a := a) (m := m) (by omega)
  have HO := Lib.hid (fun W => offset_any x y a m W)
  have HS := Lib.hid (fun W => skip_any x y a m W)
  rw [hmay] at HO HS
  simp only [if_true] at HO HS
  generalize offI x y a m = o at *
  generalize skipI x y a m = k at *
  clear hmay hK
  refine (callsIn_wide (n := 4)).1 ?_
  refine callsIn_of_wp_marks Try.func7 rfl trivial ?_ rfl
  simp only [Try.ntmps7, List.size_toArray, List.length_cons, List.length_nil, Nat.reduceAdd, Nat.reduceSub, Array.replicate_succ, Array.replicate_zero, List.push_toArray, List.append_toArray, List.nil_append, List.cons_append]
  refine (wpIn_wide).2 ?_
  go_upto_region 4 with (go_at_call 14; refine (may_any _ _).mono ?_; rintro e w' ⟨rfl, rfl⟩; rw [HM.out])
  go_cut [21] from 12 to 21 (fun s21 wx => ∃ b1 b2 b3, s21 = .func (.func 20) #[] #[.pointer (some ⟨b1, 0, none⟩), .pointer (some ⟨b2, 0, none⟩), .pointer (some ⟨b3, 0, none⟩)] ∧ Hid (Steps o k m (w.heap.size + 2) b1 b2 b3 wx ∧ Below (w.heap.size + 2) ((w.alloc (.cells #[.int .u64 x, .int .u64 y] 24)).alloc (.cells #[.slice none 0 0] 25)) wx))
  case first =>
    obtain ⟨wa, hwaE⟩ : ∃ wa, (w.alloc (.cells #[.int .u64 x, .int .u64 y] 24)).alloc (.cells #[.slice none 0 0] 25) = wa := ⟨_, rfl⟩
    rw [hwaE] at x0 HB0 hwa ⊢
    go_region_held3 (fun w' => w'.rangeAt w.heap.size 0 K) (first | exact k5 | exact k4 | exact k1 | exact x0)
      (first
        | (go_at_call 8; refine Calls.mono (HO.out wa.drew) ?_; rintro e w1 ⟨rfl, h1⟩; have H1 : Hid (Below (w.heap.size + 2) wa w1) := (Below.refl _ _).drew.trans (h1.mono (show w.heap.size + 2 ≤ wa.heap.size from Nat.le_of_eq hwa.symm)); have hs1 : w.heap.size + 2 ≤ w1.heap.size := Nat.le_trans (Nat.le_of_eq hwa.symm) h1.size; have k1 : w1.rangeAt w.heap.size 0 K := range_b (w := wa) x0 (by omega) H1.out; clear h1)
        | (go_at_call 9; refine Calls.mono (HS.out w1) ?_; rintro e w2 ⟨rfl, h1⟩; have H2 : Hid (Below (w.heap.size + 2) wa w2) := H1.out.trans (h1.mono hs1); have hs2 : w.heap.size + 2 ≤ w2.heap.size := Nat.le_trans hs1 h1.size; have k4 : w2.rangeAt w.heap.size 0 K := range_b k1 (by omega) (h1.mono hs1); clear h1)
        | (go_at_call 15; refine Calls.mono (steps_to o k m w2 (w.heap.size + 2) hs2) ?_; rintro e w3 ⟨b1, b2, b3, rfl, h1, h2⟩; have H3 : Hid (Steps o k m (w.heap.size + 2) b1 b2 b3 w3) := h1; have H4 : Hid (Below (w.heap.size + 2) wa w3) := H2.out.trans (h2.mono hs2); have k5 : w3.rangeAt w.heap.size 0 K := range_b k4 (by omega) (h2.mono hs2); clear h1 h2))
    all_goals
      go_wp2_with fail
      go_meet
      exact ⟨_, _, _, rfl, H3.out, hwaE ▸ H4.out⟩
  case rest =>
    obtain ⟨b1, b2, b3, rfl, HI⟩ := hcut
    have hb1 := HI.out.1
    have hob : Boxed wc (w.heap.size + 1) 25 (.slice none 0 0) := (HI.out.2.block _ (by omega)).trans HBX.out
    have hbw : Below w.heap.size w wc := HB0.out.trans (HI.out.2.mono (by omega))
    have HBW := Lib.hid hbw
    have HOB := Lib.hid hob
    obtain ⟨i0, hi, hz0, hz1, hz2⟩ := info_parts info3
    have HZ := Lib.hid (And.intro hi (And.intro hz0 (And.intro hz1 hz2)))
    have HI1 := Lib.hid hb1
    obtain ⟨q1, q2, q3, q4, q5, q6, _⟩ := hb1
    have hwc := hbw.size
    clear hi hz0 hz1 hz2 hob hbw x0 v0
    go_wp2_with fail
    refine (wpIn_wide (n := 4)).1 ?_
    refine wpIn_rangeFunc_ownG rfl (by omega) (gf := 20) (lb := #[.pointer (some ⟨b1, 0, none⟩), .pointer (some ⟨b2, 0, none⟩), .pointer (some ⟨b3, 0, none⟩)]) rfl trivial (enters_of Try.func20 (by kernel_rfl) rfl)
      (steps_stops Fence.wide 3 trivial rfl (by omega) (w.heap.size + 2) b1 b2 b3 o k m ho (by omega) hm wc HI1.out) Kept2.trans (fun W l o o' hl ho _ _ => ⟨World.putObj_heap_other (by omega), World.putObj_heap_other (by omega)⟩) (Below.refl _ _) (fun _ => rfl)
      (fun pre W => (∃ v, Boxed W (w.heap.size + 1) 25 v ∧ W.ownsRow wc.heap.size 3 1 v pre.length (izs pre) ∧ True) ∧ Below w.heap.size w W ∧ wc.heap.size ≤ W.heap.size)
      (fun _ _ _ => False)
      (OwnFrom.and (Own.from (holdsRow_own wc.heap.size (w.heap.size + 1) 25 3 1 (fun pre => pre.length) (fun pre => izs pre) (fun pre v => True)) _) (OwnFrom.and (ownFrom_below (by omega) (by omega)) (fun s A B row hs hg _ => Nat.le_trans hs hg.size)))
      (fun _ _ _ _ _ hs _ _ => hs)
      ⟨⟨_, HOB.out, World.ownsRow_nil _ _ _ _, trivial⟩, HBW.out, Nat.le_refl _⟩
      (fun z => { tmps := #[.agg #[.int .u64 x, .int .u64 y], .int .i64 a, .int .i64 m, .pointer (some ⟨w.heap.size, 0, none⟩), undef, undef, .slice none 0 0, .pointer (some ⟨w.heap.size + 1, 0, none⟩), .int .i64 z, .int .i64 m, .bool true, .bool false, u12, u13, u14, u15, u16, u17, u18, u19, u20, .func (.func 20) #[] #[.pointer (some ⟨b1, 0, none⟩), .pointer (some ⟨b2, 0, none⟩), .pointer (some ⟨b3, 0, none⟩)], .int .i64 z, undef, undef, undef, undef, undef], defers := [] }) ?assign ?body ?done ?stop
    case assign =>
      intro l z W KK hKK
      gi_wp2
      exact hKK
    case body =>
      rintro l pre z W ⟨⟨v, hv, hrow, _⟩, hB, hWs⟩ hlt
      have hc := var_slice W hv.cell
      gi_wp2_with (gi_at_builtin; refine wpListIn_append_own _ rfl _ _ 25 rfl wc.heap.size 3 i0 (.int .i64 0) 1 8 Try.underlying25 HZ.out.1 HZ.out.2.1 HZ.out.2.2.1 HZ.out.2.2.2 rfl (by decide) _ _ _ rfl (hrow.alloc _) ⟨W.heap.size, 0, none⟩ 1 1 [.int .i64 z] rfl rfl (cell_one_new _ _ _) (by simp [Value.oneCell']) (by unfold maxLen; omega) (by omega) (by simp; omega) ?_; intro v' w1 hown' hgrow _; obtain ⟨g', cap', rfl⟩ := ownsRow_succ hown'; obtain ⟨hv1, hv2, hr2, hk2, hb2⟩ := app2 hv (by decide) hrow hWs (show w.heap.size ≤ w.heap.size + 1 by omega) hwc hown' hgrow; have hc1 := hv1.cell; have hf1 := hv1.frozen)
      refine ⟨hk2.from _, ⟨kept_append (Nat.lt_of_lt_of_le q5 hWs) q5 (by omega) hrow hgrow, kept_append (Nat.lt_of_lt_of_le q6 hWs) q6 (by omega) hrow hgrow⟩, ⟨⟨_, hv2, ?_, trivial⟩, hB.trans hb2, Nat.le_trans hWs hb2.size⟩⟩
      rw [List.length_append]
      unfold izs at hr2 ⊢
      rw [List.map_append]
      exact hr2
    case done =>
      rintro D ys W hD rfl ⟨⟨v, hv, hrow, _⟩, hB, hWs⟩ hKD
      have hc := var_slice W hv.cell
      go_wp2_with fail
      refine ⟨by simp, .inl ⟨_, _, rfl, run_takeDeferred hKD, ?_⟩⟩
      rw [slots_len] at hrow
      exact ⟨_, results_tmp rfl _ _ _, v, rfl, row_base (ownsRow_putObj hrow _ hKD rfl) hwc, hB.trans (belowK_b (w := w) (Nat.le_refl _) W D _ _ (by omega) hKD rfl rfl)⟩
    case stop =>
      rintro D c pre W _ _ h _
      exact h.elim
end Go.Proofs.Ytgpdenhgbipopaa
