/-
  The walk of the law KeyedFlows. No condition.
-/
import Derived.Test.YtmkjljblabdbhaaPairs
namespace Go.Proofs.Ytmkjljblabdbhaa
open Go.ChangeShapes Go.WideShapes Go.ChangeAt Go.RowKit
set_option linter.unusedVariables false
set_option linter.unusedSimpArgs false

theorem var_cell {t : TypeId} {k : IntKind} {P : Addr} {v : Value} (hu : Try.prog.underlying t = some (.int k)) (W : World) (h : W.cell? P = some v) : (loadVar t P).run Try.prog W = .ok v W := by
  have hagg : (isAgg t).run Try.prog W = .ok false W := by
    unfold isAgg
    rw [Sem.run_bind, run_underlying hu W]
    rfl
  simp [loadVar, Sem.run_bind, hagg, h]
def FS (B : Nat) (K C : List Value) (a b : Int) (W : World) : Prop :=
  W.rangeAt B 0 K ∧ W.rangeAt (B + 1) 0 C ∧ W.rangeAt (B + 3) 0 K ∧ W.cell? ⟨B + 1 + 1, 0, none⟩ = some (.int .i64 a) ∧ W.cell? ⟨B + 1 + 1, 1, none⟩ = some (.int .i64 b)
theorem FS.later {B : Nat} {K C : List Value} {a b : Int} {w v : World} (h : FS B K C a b w) (hb : Below w.heap.size w v) (hB : B + 4 ≤ w.heap.size) : FS B K C a b v ∧ B + 4 ≤ v.heap.size :=
  ⟨⟨range_b h.1 (by omega) hb, range_b h.2.1 (by omega) hb, range_b h.2.2.1 (by omega) hb, (hb.cell (by simp; omega)).trans h.2.2.2.1, (hb.cell (by simp; omega)).trans h.2.2.2.2⟩, Nat.le_trans hB hb.size⟩
set_option maxHeartbeats 1000000 in
attribute [-go_sem] loadVar in
theorem KeyedFlows.walk (x y a b : Int) (cs : Array Value) (src dst : List Int) (sp dp : Int) (w : World) (h : FlowIs cs src sp dst dp) :
    Calls Try.prog 4 #[.agg #[.int .u64 x, .int .u64 y], .agg cs, .agg #[.int .i64 a, .int .i64 b]] w fun e w' => e = .returned (.bool true) ∧ Below w.heap.size w w' := by
  obtain ⟨w3, hw3⟩ : ∃ w3, ((w.alloc (.cells #[.int .u64 x, .int .u64 y] 24)).alloc (.cells cs 35)).alloc (.cells #[.int .i64 a, .int .i64 b] 36) = w3 := ⟨_, rfl⟩
  have hs3 : w3.heap.size = w.heap.size + 3 := by rw [← hw3]; simp
  have b0 : Blk w3 w.heap.size 24 #[.int .u64 x, .int .u64 y] := hw3 ▸ ((Blk.new w 24 _).more _).more _
  have b1 : Blk w3 (w.heap.size + 1) 35 cs := hw3 ▸ (Blk.newAt _ 35 cs (w.heap.size + 1) (by simp)).more _
  have b2 : Blk w3 (w.heap.size + 2) 36 #[.int .i64 a, .int .i64 b] := hw3 ▸ (Blk.newAt _ 36 _ (w.heap.size + 2) (by simp))
  have HB3 : Hid (Below w.heap.size w w3) := hw3 ▸ (((Below.refl _ _).alloc (Nat.le_refl _) _).alloc (by simp) _).alloc (by simp; omega) _
  obtain ⟨w4, hw4⟩ : ∃ w4, w3.alloc (.cells #[.int .u64 x, .int .u64 y] 29) = w4 := ⟨_, rfl⟩
  have hs4 : w4.heap.size = w.heap.size + 4 := by rw [← hw4]; simp; omega
  have HB4 : Hid (Below w.heap.size w w4) := hw4 ▸ HB3.out.alloc HB3.out.size _
  have r0 : w4.rangeAt w.heap.size 0 #[Value.int .u64 x, Value.int .u64 y].toList := hw4 ▸ range_of (b0.more _)
  have r1 : w4.rangeAt (w.heap.size + 1) 0 cs.toList := hw4 ▸ range_of (b1.more _)
  have r3 : w4.rangeAt (w.heap.size + 3) 0 #[Value.int .u64 x, Value.int .u64 y].toList := hw4 ▸ range_of (Blk.newAt _ 29 _ _ (by omega))
  have p0 : w4.cell? ⟨w.heap.size + 1 + 1, 0, none⟩ = some (.int .i64 a) := hw4 ▸ (b2.more _).cell 0
  have p1 : w4.cell? ⟨w.heap.size + 1 + 1, 1, none⟩ = some (.int .i64 b) := hw4 ▸ (b2.more _).cell 1
  have l0 : (loadVar 22 ⟨w.heap.size, 0, none⟩).run Try.prog w3 = .ok (.int .u64 x) w3 := var_cell Try.underlying22 _ (b0.cell 0)
  have l1 : (loadVar 22 ⟨w.heap.size, 1, none⟩).run Try.prog w3 = .ok (.int .u64 y) w3 := var_cell Try.underlying22 _ (b0.cell 1)
  have v0 : ∀ W : World, W.rangeAt w.heap.size 0 #[Value.int .u64 x, Value.int .u64 y].toList → (loadVar 24 ⟨w.heap.size, 0, none⟩).run Try.prog W = .ok (.agg #[Value.int .u64 x, Value.int .u64 y]) W := fun W hr => var_of Try.underlying24 rfl size24 rfl W hr
  have v3 : ∀ W : World, W.rangeAt (w.heap.size + 3) 0 #[Value.int .u64 x, Value.int .u64 y].toList → (loadVar 29 ⟨w.heap.size + 3, 0, none⟩).run Try.prog W = .ok (.agg #[Value.int .u64 x, Value.int .u64 y]) W := fun W hr => var_of Try.underlying29 rfl size29 rfl W hr
  have v1 : ∀ W : World, W.rangeAt (w.heap.size + 1) 0 cs.toList → (loadVar 35 ⟨w.heap.size + 1, 0, none⟩).run Try.prog W = .ok (.agg cs) W := fun W hr => var_of Try.underlying35 rfl size35 h.size W hr
  have q0 : ∀ W : World, W.cell? ⟨w.heap.size + 1 + 1, 0, none⟩ = some (.int .i64 a) → (loadVar 3 ⟨w.heap.size + 1 + 1, 0, none⟩).run Try.prog W = .ok (.int .i64 a) W := fun W hr => var_cell Try.underlying3 W hr
  have q1 : ∀ W : World, W.cell? ⟨w.heap.size + 1 + 1, 1, none⟩ = some (.int .i64 b) → (loadVar 3 ⟨w.heap.size + 1 + 1, 1, none⟩).run Try.prog W = .ok (.int .i64 b) W := fun W hr => var_cell Try.underlying3 W hr
  obtain ⟨K, hK⟩ : ∃ K, #[Value.int .u64 x, Value.int .u64 y].toList = K := ⟨_, rfl⟩
  obtain ⟨C, hC⟩ : ∃ C, cs.toList = C := ⟨_, rfl⟩
  rw [hK] at r0 v0 r3 v3
  rw [hC] at r1 v1
  have HH := Lib.hid h
  clear hK hC h b0 b1 b2
  obtain ⟨U1, hU1⟩ : ∃ U, sumI x y (fbytes src sp dst dp) = U := ⟨_, rfl⟩
  obtain ⟨U2, hU2⟩ : ∃ U, sumI x y (pbytes a b) = U := ⟨_, rfl⟩
  have HU1 := Lib.hid hU1
  have HU2 := Lib.hid hU2
  clear hU1 hU2
  go_enter Try.func4, Try.ntmps4
  go_upto_region 2 with fail
  have S4 : FS w.heap.size K C a b w4.drew ∧ w.heap.size + 4 ≤ w4.drew.heap.size := ⟨⟨r0, r1, r3, p0, p1⟩, by simp; omega⟩
  have HS4 := Lib.hid S4
  clear S4
  go_region_held3 (fun W => W.rangeAt w.heap.size 0 K ∧ W.rangeAt (w.heap.size + 1) 0 C ∧ W.rangeAt (w.heap.size + 3) 0 K ∧ W.cell? ⟨w.heap.size + 1 + 1, 0, none⟩ = some (.int .i64 a) ∧ W.cell? ⟨w.heap.size + 1 + 1, 1, none⟩ = some (.int .i64 b)) (first | exact HS9.out.1 | exact HS8.out.1 | exact HS7.out.1 | exact HS6.out.1 | exact HS5.out.1 | exact HS4.out.1)
    (first
      | (go_at_call 10; refine Calls.mono (flow_any x y cs src dst sp dp w4.drew HH.out) ?_; rintro e w5 ⟨rfl, h5⟩; rw [HU1.out]; have HS5 := Lib.hid (HS4.out.1.later h5 HS4.out.2); have H5 := Lib.hid h5; clear h5)
      | (go_at_call 11; refine Calls.mono (refFlow_any x y cs src dst sp dp w5 HH.out) ?_; rintro e w6 ⟨rfl, h6⟩; rw [HU1.out]; have HS6 := Lib.hid (HS5.out.1.later h6 HS5.out.2); have H6 := Lib.hid h6; clear h6)
      | (go_at_call 12; refine Calls.mono (pair_any x y a b w6) ?_; rintro e w7 ⟨rfl, h7⟩; rw [HU2.out]; have HS7 := Lib.hid (HS6.out.1.later h7 HS6.out.2); have H7 := Lib.hid h7; clear h7)
      | (go_at_call 13; refine Calls.mono (refPair_any x y a b w7) ?_; rintro e w8 ⟨rfl, h8⟩; rw [HU2.out]; have HS8 := Lib.hid (HS7.out.1.later h8 HS7.out.2); have H8 := Lib.hid h8; clear h8)
      | (go_at_call 5; refine Calls.mono (lives_any w8) ?_; rintro e w9 ⟨rfl, h9⟩; have HS9 := Lib.hid (HS8.out.1.later h9 HS8.out.2); have H9 := Lib.hid h9; clear h9))
  go_wp2
  go_ret
  refine ⟨ret_bool rfl, ?_⟩
  have e5 : Below w.heap.size w w5 := HB4.out.trans ((Below.refl _ _).drew.trans (H5.out.mono (by simp; omega)))
  have e6 := e5.trans (H6.out.mono e5.size)
  have e7 := e6.trans (H7.out.mono e6.size)
  have e8 := e7.trans (H8.out.mono e7.size)
  exact e8.trans (H9.out.mono e8.size)
end Go.Proofs.Ytmkjljblabdbhaa
