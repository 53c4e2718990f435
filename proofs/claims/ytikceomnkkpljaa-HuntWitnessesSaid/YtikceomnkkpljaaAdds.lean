/-
  The walk of the list's add, for what may be. No condition beyond that.
-/
import Derived.Test.YtikceomnkkpljaaAdd
import Derived.Great.BuildSlice
import Derived.Deep.WholeRow
namespace Go.Proofs.Ytikceomnkkpljaa
open Go.ChangeShapes Go.WideShapes Go.ChangeAt Go.RowKit
set_option linter.unusedVariables false
set_option linter.unusedSimpArgs false

theorem var27 {P : Addr} {v : Value} (W : World) (h : W.cell? P = some v) : (loadVar 27 P).run Try.prog W = .ok v W := by
  simp [go_sem, loadVar, Try.underlying27, TypeDesc.isRow, h]
theorem var37 {P : Addr} {v : Value} (W : World) (h : W.cell? P = some v) : (loadVar 37 P).run Try.prog W = .ok v W := by
  simp [go_sem, loadVar, Try.underlying37, TypeDesc.isRow, h]
theorem var34 {g : Nat} {cs : Array Value} (W : World) (h : Blk W g 34 cs) (hs : (Try.prog.info? 34).map (·.size) = some cs.size) : (loadVar 34 ⟨g, 0, none⟩).run Try.prog W = .ok (.agg cs) W :=
  run_loadVar_row W g 34 34 cs (0, 0) _ h Try.underlying34 rfl hs
theorem build_adr (n d a : Int) (W : World) : (Instr.buildSlice 27 1 #[(0, .agg (adrV n d a))]).run Try.prog W = .ok (.slice (some ⟨W.heap.size, 0, none⟩) 1 1) (W.alloc (.cells (adrV n d a) 34)) := by
  obtain ⟨i0, hi, hz0, hz1, hz2⟩ := info_parts info34
  refine run_buildSlice W 27 34 1 _ (adrV n d a) i0 (.agg zeroA) Try.underlying27 hi hz0 (by rw [hz1]; omega) (by rw [hz1]; omega) ?_
  rw [hz1, show (Array.range (1 * 16)).map ((Value.agg zeroA).cells[· % (Value.agg zeroA).cells.size]!) = zeroA from by kernel_rfl]
  simp [Instr.fill, adrV, u8s, adrL, by2, by4, zeroA, Value.cells, Array.range, Nat.fold]
theorem step_build {ops : Array Oper} {o : Oper} {a : Act} {K : Act → World → Prop} {Q : Exit → Act → World → Prop} {E : Prop} (w : World) (hgd : o.guard = none) (t : TypeId) (len : Nat) (x : Operand) (ho : o.op = .buildSlice t len #[(0, x)])
    (vx : Value) (hx : a.eval x = vx) (v : Value) (w' : World) (hr : (Instr.buildSlice t len #[(0, vx)]).run Try.prog w = .ok v w') (h : K (a.put o.dst v) w') :
    if Region.wanted o (yielded ops a.tmps) = true then Oper.wp Try.prog o a w K Q else E := by
  have hw : Region.wanted o (yielded ops a.tmps) = true := by simp [Region.wanted, hgd]
  rw [if_pos hw]
  subst hx
  unfold Oper.wp execOp
  simp only [ho, List.map_toArray, List.map_cons, List.map_nil, Sem.run_bind, hr, Result.andThen_ok]
  exact h
attribute [-go_sem] loadVar in
set_option maxHeartbeats 1600000 in
theorem add_any (X B : Nat) (a n d : Int) (v : Value) (l : List Seg) (w : World) (h : ListIs w X B a v l) (hl : l.length ≤ 1000) (hn : 0 ≤ n ∧ n ≤ 65535) (hd : 0 ≤ d ∧ d ≤ 255) (ha : 0 ≤ a ∧ a ≤ 4294967295) :
    Calls Try.prog 23 #[.pointer (some ⟨X, 0, none⟩), .int .i64 n, .int .i64 d] w fun e w' => (∃ r, e = .returned r) ∧ ∃ v', ListIs w' X B a v' (l ++ [(n, d, a)]) ∧ Chg (OwnL X v) w w' := by
  obtain ⟨A, c, rfl⟩ := h.row.form
  have v0 := var37 (P := ⟨X, 0, none⟩) w ((h.blk.cell 0).trans rfl)
  have HH := Lib.hid h
  have HM := Lib.hid (make_any n d a w hn hd ha)
  clear h
  go_enter Try.func23, Try.ntmps23
  go_wp2_with fail
  refine HM.out.mono ?_; rintro e w1 ⟨rfl, h1⟩
  have H1 := Lib.hid h1
  clear h1 v0 HM
  obtain ⟨cs, hce⟩ : ∃ cs, adrV n d a = cs := ⟨_, rfl⟩
  have hi34 : Hid ((Try.prog.info? 34).map (·.size) = some cs.size) := by unfold Hid; rw [← hce]; exact size34
  have hold : Hid (zeroA.size = cs.size) := by unfold Hid; rw [← hce]; rfl
  have hall : Hid (cs.all (·.oneCell') = true) := by unfold Hid; rw [← hce]; unfold adrV; simpa using u8s_one
  have KZ : Hid (Blk (w1.alloc (.cells zeroA 34)) w1.heap.size 34 zeroA) := Blk.new _ _ _
  rw [hce]
  have HCE := Lib.hid hce
  clear hce
  go_upto_region 1 with (first
    | (refine wpList_store_row rfl 34 _ _ rfl w1.heap.size cs rfl rfl 34 zeroA KZ.out hi34.out hold.out hall.out ?_)
    | fail)
  rw [show (w1.alloc (.cells #[Value.int IntKind.u8 0, Value.int IntKind.u8 0, Value.int IntKind.u8 0, Value.int IntKind.u8 0, Value.int IntKind.u8 0, Value.int IntKind.u8 0, Value.int IntKind.u8 0, Value.int IntKind.u8 0, Value.int IntKind.u8 0, Value.int IntKind.u8 0, Value.int IntKind.u8 0, Value.int IntKind.u8 0, Value.int IntKind.u8 0, Value.int IntKind.u8 0, Value.int IntKind.u8 0, Value.int IntKind.u8 0] 34)).setRow w1.heap.size cs = w1.alloc (.cells cs 34) from World.setRow_alloc_new _ _ _ _]
  obtain ⟨T, hT⟩ : ∃ T, w1.heap.size = T := ⟨_, rfl⟩
  obtain ⟨wb, hwb⟩ : ∃ wb, w1.alloc (.cells cs 34) = wb := ⟨_, rfl⟩
  have KT : Hid (Blk wb T 34 cs) := by unfold Hid; rw [← hwb, ← hT]; exact Blk.new _ _ _
  have hb1 : Below w1.heap.size w1 wb := by rw [← hwb]; exact (Below.refl _ _).alloc (Nat.le_refl _) _
  have HB : Hid (Below w.heap.size w wb) := H1.out.trans (hb1.mono H1.out.size)
  have LB : Hid (ListIs wb X B a (.slice A l.length c) l) := HH.out.later HB.out
  rw [hwb, hT]
  clear hwb hT hb1 KZ
  obtain ⟨p, q, x0, x1, x2, x3, hlit⟩ : ∃ p q x0 x1 x2 x3, cs = #[.int .u8 253, .int .u8 108, .int .u8 0, .int .u8 98, .int .u8 0, .int .u8 0, .int .u8 0, .int .u8 0, .int .u8 p, .int .u8 q, .int .u8 d, .int .u8 0, .int .u8 x0, .int .u8 x1, .int .u8 x2, .int .u8 x3] := ⟨n / 256 % 256, n % 256, a / 16777216, a / 65536 % 256, a / 256 % 256, a % 256, HCE.out.symm⟩
  have hflat : Hid ((cs : Array Value).toList = Seg.cells (n, d, a)) := by unfold Hid; rw [← HCE.out]; rfl
  subst hlit
  obtain ⟨i0, hi, hz0, hz1, hz2⟩ := info_parts info34
  have HZ := Lib.hid (And.intro hi (And.intro hz0 (And.intro hz1 hz2)))
  clear hi hz0 hz1 hz2
  go_upto_region 2 with fail
  have e1 : wb.drew.cell? ⟨X, 1, none⟩ = some (.slice A l.length c) := (LB.out.blk.cell 1).trans rfl
  have LB2 : Hid (ListIs (wb.alloc (.cells #[.int .u8 253, .int .u8 108, .int .u8 0, .int .u8 98, .int .u8 0, .int .u8 0, .int .u8 0, .int .u8 0, .int .u8 p, .int .u8 q, .int .u8 d, .int .u8 0, .int .u8 x0, .int .u8 x1, .int .u8 x2, .int .u8 x3] 34)).drew X B a (.slice A l.length c) l) := LB.out.later (((Below.refl _ _).alloc (Nat.le_refl _) _).drew)
  have e2 : (wb.alloc (.cells #[.int .u8 253, .int .u8 108, .int .u8 0, .int .u8 98, .int .u8 0, .int .u8 0, .int .u8 0, .int .u8 0, .int .u8 p, .int .u8 q, .int .u8 d, .int .u8 0, .int .u8 x0, .int .u8 x1, .int .u8 x2, .int .u8 x3] 34)).drew.cell? ⟨X, 1, none⟩ = some (.slice A l.length c) := (LB2.out.blk.cell 1).trans rfl
  have l1 := var27 _ e1
  have l2 := var27 _ e2
  have m1 : (loadVar 34 ⟨T, 0, none⟩).run Try.prog wb.drew = .ok (.agg #[.int .u8 253, .int .u8 108, .int .u8 0, .int .u8 98, .int .u8 0, .int .u8 0, .int .u8 0, .int .u8 0, .int .u8 p, .int .u8 q, .int .u8 d, .int .u8 0, .int .u8 x0, .int .u8 x1, .int .u8 x2, .int .u8 x3]) wb.drew := var34 _ (KT.out.draw) hi34.out
  have hnew : Hid (∀ j u, (Seg.cells (n, d, a))[j]? = some u → (wb.alloc (.cells #[.int .u8 253, .int .u8 108, .int .u8 0, .int .u8 98, .int .u8 0, .int .u8 0, .int .u8 0, .int .u8 0, .int .u8 p, .int .u8 q, .int .u8 d, .int .u8 0, .int .u8 x0, .int .u8 x1, .int .u8 x2, .int .u8 x3] 34)).drew.cell? ((⟨wb.heap.size, 0, none⟩ : Addr).add j) = some u) := by
    intro j u hj
    rw [Addr.add_mid, Nat.zero_add, (Blk.draw (Blk.new wb 34 _)).cell, ← Array.getElem?_toList, hflat.out]
    exact hj
  have hone : Hid (∀ u ∈ Seg.cells (n, d, a), u.oneCell' = true) := u8s_one
  have h63 : Hid (l.length + 1 ≤ maxLen) := by unfold Hid maxLen; omega
  have h47 : Hid ((l.length + 1) * 16 ≤ 140737488355328) := by unfold Hid; omega
  have hBz : Hid (B ≤ ((wb.alloc (.cells #[.int .u8 253, .int .u8 108, .int .u8 0, .int .u8 98, .int .u8 0, .int .u8 0, .int .u8 0, .int .u8 0, .int .u8 p, .int .u8 q, .int .u8 d, .int .u8 0, .int .u8 x0, .int .u8 x1, .int .u8 x2, .int .u8 x3] 34)).drew).heap.size) := LB2.out.le
  have hlen : Hid ((Seg.cells (n, d, a)).length = 1 * 16) := rfl
  go_region_law (first
    | (refine step_append_lies _ rfl _ _ 27 rfl B 34 i0 _ 16 16 Try.underlying27 HZ.out.1 HZ.out.2.1 HZ.out.2.2.1 HZ.out.2.2.2 rfl (Nat.succ_pos 15) (.slice A l.length c) l.length (flatA l) rfl LB2.out.row ⟨wb.heap.size, 0, none⟩ 1 1 (Seg.cells (n, d, a)) rfl hlen.out hnew.out hone.out Nat.one_pos h63.out h47.out hBz.out _ rfl ?_; intro g3 c3 w3 hown hgrow hblk hlt; have R := Lib.hid (ListIs.grows (v' := .slice (some ⟨g3, 0, none⟩) (l.length + 1) c3) LB2.out hown rfl hgrow); clear hown hgrow hblk; have k2 : w3.cell? ⟨X, 1, none⟩ = some (.slice A l.length c) := (R.out.1.cell 1).trans rfl; have f3 := R.out.1.free 1)
    | fail)
  all_goals
    go_wp2_with fail
    go_end0
    have hc : Chg (OwnL X (.slice A l.length c)) w (wb.alloc (.cells #[.int .u8 253, .int .u8 108, .int .u8 0, .int .u8 98, .int .u8 0, .int .u8 0, .int .u8 0, .int .u8 0, .int .u8 p, .int .u8 q, .int .u8 d, .int .u8 0, .int .u8 x0, .int .u8 x1, .int .u8 x2, .int .u8 x3] 34)).drew := Chg.of_below ((HB.out.alloc HB.out.size _).drew)
    exact ⟨⟨_, rfl⟩, ⟨_, R.out.2.1⟩, hc.trans R.out.2.2 (fun k _ e => e)⟩
end Go.Proofs.Ytikceomnkkpljaa
