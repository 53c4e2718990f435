/-
  The document's net: its row; the walks of its Put and At. No condition.
-/
import Derived.Test.YtiooikjaalphiaaDouble
import Derived.Laws.BytesArg
namespace Go.Proofs.Ytiooikjaalphiaa
open Go.ChangeShapes Go.WideShapes Go.ChangeAt Go.RowKit
set_option linter.unusedVariables false
set_option linter.unusedSimpArgs false

theorem info36 : (Try.prog.info? 36).map (fun i => (i.zero, i.size, i.bytes)) = some (some (.agg #[.string ByteArray.empty, .int .i64 0]), 2, 24) := by kernel_rfl
theorem size27 : (Try.prog.info? 27).map (·.size) = some 2 := by kernel_rfl
theorem size36 : (Try.prog.info? 36).map (·.size) = some 2 := by kernel_rfl
def Rv (x : List Int × Int) : List Value := [.string (strOfNums x.1), .int .i64 x.2]
def flatR (rl : List (List Int × Int)) : List Value := rl.flatMap Rv
theorem flatR_len (rl : List (List Int × Int)) : (flatR rl).length = rl.length * 2 := by
  induction rl with
  | nil => rfl
  | cons p t ih => simp [flatR, Rv] at *; omega
theorem flatR_append (rl sl : List (List Int × Int)) : flatR (rl ++ sl) = flatR rl ++ flatR sl := by simp [flatR]
theorem flatR_at : ∀ (rl : List (List Int × Int)) (i : Nat) (h : i < rl.length), (flatR rl)[i * 2]? = some (.string (strOfNums rl[i].1)) ∧ (flatR rl)[i * 2 + 1]? = some (.int .i64 rl[i].2)
  | p :: t, 0, _ => ⟨rfl, rfl⟩
  | p :: t, i + 1, h => by
    have r := flatR_at t i (by simpa using h)
    have e : flatR (p :: t) = .string (strOfNums p.1) :: .int .i64 p.2 :: flatR t := rfl
    rw [e, show (i + 1) * 2 = i * 2 + 1 + 1 by omega, show i * 2 + 1 + 1 + 1 = (i * 2 + 1) + 1 + 1 by omega]
    exact r
theorem flatR_one {rl : List (List Int × Int)} : ∀ u ∈ flatR rl, u.oneCell' = true := by
  intro u hu
  simp only [flatR, List.mem_flatMap, Rv] at hu
  obtain ⟨p, _, hu⟩ := hu
  simp at hu
  rcases hu with rfl | rfl <;> rfl
def RefIs (w : World) (B : Nat) (v : Value) (rl : List (List Int × Int)) : Prop := w.ownsRow B 36 2 v rl.length (flatR rl)
section
variable {w v : World} {B : Nat} {x : Value} {rl : List (List Int × Int)}
theorem RefIs.later (h : RefIs w B x rl) (hb : Below w.heap.size w v) : RefIs v B x rl :=
  ⟨h.1, h.2.imp id fun ⟨g, cap, cur, h1, h2, h3, h4⟩ => ⟨g, cap, cur, h1, h2, (hb.block g (lt_of_block h3)).trans h3, h4⟩⟩
theorem RefIs.form (h : RefIs w B x rl) : ∃ A c, x = .slice A rl.length c := by
  rcases h.2 with ⟨rfl, h0⟩ | ⟨g, cap, cur, rfl, _⟩
  · exact ⟨none, 0, by rw [h0]⟩
  · exact ⟨_, _, rfl⟩
theorem RefIs.chg {S : Nat → Prop} (h : RefIs w B x rl) (hc : Chg S w v) (hS : ∀ k cs, Blk w k 36 cs → B ≤ k → ¬ S k) : RefIs v B x rl :=
  ⟨h.1, h.2.imp id fun ⟨g, cap, cur, h1, h2, h3, h4⟩ => ⟨g, cap, cur, h1, h2, (hc.block g (lt_of_block h3) (hS g cur h3 h2)).trans h3, h4⟩⟩
theorem RefIs.base {B' : Nat} (h : RefIs w B x rl) (hb : B' ≤ B) : RefIs w B' x rl :=
  ⟨h.1, h.2.imp id fun ⟨g, cap, cur, h1, h2, h3⟩ => ⟨g, cap, cur, h1, Nat.le_trans hb h2, h3⟩⟩
end
/-- A part of a row: nil, or cells at an address. -/
def RSrc (w : World) (s : Value) (sl : List (List Int × Int)) : Prop := (s = .slice none 0 0 ∧ sl = []) ∨ ∃ a c, s = .slice (some a) sl.length c ∧ a.block < w.heap.size ∧ ∀ j u, (flatR sl)[j]? = some u → w.cell? (a.add j) = some u
theorem RefIs.src {w : World} {B : Nat} {x : Value} {rl : List (List Int × Int)} (h : RefIs w B x rl) : RSrc w x rl := by
  rcases h.2 with ⟨rfl, h0⟩ | ⟨g, cap, cur, rfl, h1, h2, h3⟩
  · exact Or.inl ⟨rfl, List.eq_nil_of_length_eq_zero h0⟩
  · exact Or.inr ⟨⟨g, 0, none⟩, cap, rfl, lt_of_block h2, World.ownsRow.cells (g := g) ⟨h.1, Or.inr ⟨g, cap, cur, rfl, h1, h2, h3⟩⟩ rfl⟩
theorem RSrc.later {w v : World} {s : Value} {sl : List (List Int × Int)} (h : RSrc w s sl) (hb : Below w.heap.size w v) : RSrc v s sl := by
  rcases h with h | ⟨a, c, h1, h2, h3⟩
  · exact Or.inl h
  · exact Or.inr ⟨a, c, h1, Nat.lt_of_lt_of_le h2 hb.size, fun j u hj => (hb.cell (p := a.add j) (by rw [show (a.add j).block = a.block by unfold Addr.add; split <;> rfl]; exact h2)).trans (h3 j u hj)⟩
theorem ref_append {w : World} {B : Nat} {x s : Value} {rl sl : List (List Int × Int)} (h : RefIs w B x rl) (hs : RSrc w s sl) (hB : B ≤ w.heap.size) (hn : rl.length + sl.length ≤ 1000) :
    ∃ v' w', (Builtin.append_ #[25, 25] 25 #[x, s]).run Try.prog w = .ok v' w' ∧ RefIs w' B v' (rl ++ sl) ∧ w.grownBy w' x.ownBlock := by
  obtain ⟨i0, hi, hz0, hz1, hz2⟩ := info_parts info36
  rcases hs with ⟨rfl, rfl⟩ | ⟨a, c, rfl, h2, h3⟩
  · exact ⟨x, w, run_append_owned_none (P := Try.prog) (w := w) B 25 25 36 i0 2 Try.underlying25 hi x rl.length (flatR rl) h, by simpa using h, ⟨rfl, rfl, rfl, Nat.le_refl _, fun _ _ _ => rfl⟩⟩
  · obtain ⟨v', w', r1, r2, r3, _⟩ := run_append_own (P := Try.prog) w B 25 25 36 i0 _ 2 24 Try.underlying25 hi hz0 hz1 hz2 rfl (by decide) x rl.length (flatR rl) h a sl.length c (flatR sl) (flatR_len sl) h3 flatR_one (by unfold maxLen; omega) (by omega) hB
    refine ⟨v', w', r1, ?_, r3⟩
    unfold RefIs
    rw [List.length_append, flatR_append]
    exact r2
theorem ref_below {w wr w1 : World} {B B0 : Nat} {x : Value} {rl : List (List Int × Int)} (hb : Below B0 w wr) (hB : B0 ≤ wr.heap.size) (h : RefIs wr B x rl) (h0 : B0 ≤ B) (hg : wr.grownBy w1 x.ownBlock) : Below B0 w w1 :=
  hb.grown hg hB (fun k hk => Nat.le_trans h0 (h.lt k hk).1)
theorem ref_empty (w : World) (B : Nat) (hB : B ≤ w.heap.size) : RefIs (w.alloc (.cells #[] 36)) B (.slice (some ⟨w.heap.size, 0, none⟩) 0 0) [] :=
  ⟨rfl, Or.inr ⟨w.heap.size, 0, #[], rfl, hB, heap_alloc_new w _, Nat.le_refl _, by unfold maxLen; omega, rfl, rfl⟩⟩
theorem ref_one (w : World) (x : List Int × Int) : RSrc (w.alloc (.cells #[.string (strOfNums x.1), .int .i64 x.2] 36)) (.slice (some ⟨w.heap.size, 0, none⟩) 1 1) [x] :=
  Or.inr ⟨_, 1, rfl, by simp, cells2⟩
theorem ref_one1 (w : World) (o : Obj) (x : List Int × Int) : RSrc ((w.alloc o).alloc (.cells #[.string (strOfNums x.1), .int .i64 x.2] 36)) (.slice (some ⟨w.heap.size + 1, 0, none⟩) 1 1) [x] := by
  have h := ref_one (w.alloc o) x
  rw [show (w.alloc o).heap.size = w.heap.size + 1 by simp] at h
  exact h
theorem ref_empty1 (w : World) (o : Obj) (B : Nat) (hB : B ≤ w.heap.size + 1) : RefIs ((w.alloc o).alloc (.cells #[] 36)) B (.slice (some ⟨w.heap.size + 1, 0, none⟩) 0 0) [] := by
  have h := ref_empty (w.alloc o) B (by simpa using hB)
  rw [show (w.alloc o).heap.size = w.heap.size + 1 by simp] at h
  exact h
theorem RSrc.grown {w v : World} {a : Addr} {n c : Nat} {row : Option Nat} {sl : List (List Int × Int)} (h : RSrc w (.slice (some a) n c) sl) (hg : w.grownBy v row) (hne : some a.block ≠ row) : RSrc v (.slice (some a) n c) sl := by
  rcases h with ⟨h, _⟩ | ⟨a', c', h1, h2, h3⟩
  · cases h
  · injection h1 with h1 e1 e2
    injection h1 with h1
    subst h1 e1 e2
    refine Or.inr ⟨a, c, rfl, Nat.lt_of_lt_of_le h2 hg.size, fun j u hj => ?_⟩
    have hb : (a.add j).block = a.block := by unfold Addr.add; split <;> rfl
    exact (World.cell?_of_block (by rw [hb]; exact hg.block _ h2 hne)).trans (h3 j u hj)
theorem step_append_run {P : Program} {ops : Array Oper} {o : Oper} {a : Act} {K : Act → World → Prop} {Q : Exit → Act → World → Prop} {E : Prop} (w : World) (hgd : o.guard = none) (s x : Operand) (t tn : TypeId)
    (ho : o.op = .call { callee := .builtin .append, args := #[s, x], argTypes := #[t, tn] }) (vs vx : Value) (hs : a.eval s = vs) (hx : a.eval x = vx)
    (v' : Value) (w' : World) (hr : (Builtin.append_ #[t, tn] o.type #[vs, vx]).run P w = .ok v' w') (h : K (a.put o.dst v') w') :
    if Region.wanted o (yielded ops a.tmps) = true then Oper.wp P o a w K Q else E := by
  have hw : Region.wanted o (yielded ops a.tmps) = true := by simp [Region.wanted, hgd]
  rw [if_pos hw]
  exact Lib.wp_append_run w s x t tn ho vs vx hs hx v' w' hr h
theorem step_ref_append {ops : Array Oper} {o : Oper} {a : Act} {K : Act → World → Prop} {Q : Exit → Act → World → Prop} {E : Prop} (w : World) (hgd : o.guard = none) (s x : Operand)
    (ho : o.op = .call { callee := .builtin .append, args := #[s, x], argTypes := #[25, 25] }) (hty : o.type = 25) (vs vx : Value) (hs : a.eval s = vs) (hx : a.eval x = vx) (B : Nat) (rl sl : List (List Int × Int)) (hr : RefIs w B vs rl) (hsr : RSrc w vx sl) (hB : B ≤ w.heap.size) (hn : rl.length + sl.length ≤ 1000) (w0 : World) (hb0 : Below B w0 w)
    (h : ∀ A c w', RefIs w' B (.slice A (rl.length + sl.length) c) (rl ++ sl) → Below B w0 w' → w.grownBy w' vs.ownBlock → K (a.put o.dst (.slice A (rl.length + sl.length) c)) w') :
    if Region.wanted o (yielded ops a.tmps) = true then Oper.wp Try.prog o a w K Q else E := by
  obtain ⟨v', w', r1, r2, r3⟩ := ref_append hr hsr hB hn
  obtain ⟨A, c, rfl⟩ := r2.form
  rw [List.length_append] at r1 r2
  exact step_append_run w hgd s x 25 25 ho vs vx hs hx _ w' (by rw [hty]; exact r1) (h A c w' r2 (ref_below hb0 hB hr (Nat.le_refl _) r3) r3)
theorem wpList_ref_append {ops : Array Oper} {rest : List Oper} {o : Oper} {a : Act} {Q : Exit → Act → World → Prop} (w : World) (hgd : o.guard = none) (s x : Operand)
    (ho : o.op = .call { callee := .builtin .append, args := #[s, x], argTypes := #[25, 25] }) (hty : o.type = 25) (vs vx : Value) (hs : a.eval s = vs) (hx : a.eval x = vx) (B : Nat) (rl sl : List (List Int × Int)) (hr : RefIs w B vs rl) (hsr : RSrc w vx sl) (hB : B ≤ w.heap.size) (hn : rl.length + sl.length ≤ 1000) (w0 : World) (hb0 : Below B w0 w)
    (h : ∀ A c w', RefIs w' B (.slice A (rl.length + sl.length) c) (rl ++ sl) → Below B w0 w' → w.grownBy w' vs.ownBlock → wpList Try.prog ops Q rest (a.put o.dst (.slice A (rl.length + sl.length) c)) w') : wpList Try.prog ops Q (o :: rest) a w := by
  obtain ⟨v', w', r1, r2, r3⟩ := ref_append hr hsr hB hn
  obtain ⟨A, c, rfl⟩ := r2.form
  rw [List.length_append] at r1 r2
  exact Lib.wpList_append_run w hgd s x 25 25 ho vs vx hs hx _ w' (by rw [hty]; exact r1) (h A c w' r2 (ref_below hb0 hB hr (Nat.le_refl _) r3) r3)
def RPost (w : World) (B : Nat) (rl : List (List Int × Int)) (lost : Int) (b : Bool) (e : Ending) (w' : World) : Prop := ∃ A c, e = .returned (.tuple #[.agg #[.slice A rl.length c, .int .i64 lost], .bool b]) ∧ RefIs w' B (.slice A rl.length c) rl ∧ Below w.heap.size w w'
theorem refPut_full (A : Option Addr) (c B : Nat) (rl : List (List Int × Int)) (lost : Int) (x : List Int × Int) (w : World) (h : RefIs w B (.slice A rl.length c) rl) (hf : 120 ≤ rl.length) (hn : rl.length ≤ 900) (hl : 0 ≤ lost ∧ lost ≤ 1000000) :
    Calls Try.prog 8 #[.agg #[.slice A rl.length c, .int .i64 lost], .agg #[.string (strOfNums x.1), .int .i64 x.2]] w (RPost w B rl (lost + 1) false) := by
  have t1 : decide ((120 : Int) ≤ (rl.length : Int)) = true := by simp; omega
  have hw : wrap64 (lost + 1) = lost + 1 := IntWalk.wrap64_in _ (by omega)
  have HH := Lib.hid h
  clear h
  go_enter Try.func8, Try.ntmps8
  go_wp2_with fail
  refine bodyPost_ret (results_cell_tmp' rfl _ _ (w.heap.size + 1 + 1) 27 _ _ _ rfl (Blk.newAt _ 27 _ _ (by simp)) Try.underlying27 rfl size27) rfl ?_
  have hb : ∀ X Y Z : Array Value, Below w.heap.size w (((w.alloc (.cells X 27)).alloc (.cells Y 36)).alloc (.cells Z 27)) := fun X Y Z => (((Below.refl _ _).alloc (Nat.le_refl _) _).alloc (by simp) _).alloc (by simp; omega) _
  exact ⟨A, c, rfl, HH.out.later (hb _ _ _), hb _ _ _⟩
set_option maxHeartbeats 3200000 in
theorem refPut_room (A : Option Addr) (c B : Nat) (rl : List (List Int × Int)) (lost : Int) (x : List Int × Int) (w : World) (h : RefIs w B (.slice A rl.length c) rl) (hB : B ≤ w.heap.size) (hf : rl.length < 120) :
    Calls Try.prog 8 #[.agg #[.slice A rl.length c, .int .i64 lost], .agg #[.string (strOfNums x.1), .int .i64 x.2]] w (RPost w B (rl ++ [x]) lost true) := by
  have t1 : decide ((120 : Int) ≤ (rl.length : Int)) = false := by simp; omega
  have HB0 : Hid (Below w.heap.size w (((w.alloc (.cells #[.slice A rl.length c, .int .i64 lost] 27)).alloc (.cells #[.string (strOfNums x.1), .int .i64 x.2] 36)).alloc (.cells #[.slice none 0 0, .int .i64 0] 27))) := (((Below.refl _ _).alloc (Nat.le_refl _) _).alloc (by simp) _).alloc (by simp; omega) _
  have K2 : Hid (Blk (((w.alloc (.cells #[.slice A rl.length c, .int .i64 lost] 27)).alloc (.cells #[.string (strOfNums x.1), .int .i64 x.2] 36)).alloc (.cells #[.slice none 0 0, .int .i64 0] 27)) w.heap.size 27 #[.slice A rl.length c, .int .i64 lost]) := ((Blk.new w 27 _).more _).more _
  have K3 : Hid (Blk (((w.alloc (.cells #[.slice A rl.length c, .int .i64 lost] 27)).alloc (.cells #[.string (strOfNums x.1), .int .i64 x.2] 36)).alloc (.cells #[.slice none 0 0, .int .i64 0] 27)) (w.heap.size + 1) 36 #[.string (strOfNums x.1), .int .i64 x.2]) := (Blk.newAt _ 36 _ _ (by simp)).more _
  have K4 : Hid (Blk (((w.alloc (.cells #[.slice A rl.length c, .int .i64 lost] 27)).alloc (.cells #[.string (strOfNums x.1), .int .i64 x.2] 36)).alloc (.cells #[.slice none 0 0, .int .i64 0] 27)) (w.heap.size + 1 + 1) 27 #[.slice none 0 0, .int .i64 0]) := Blk.newAt _ 27 _ _ (by simp)
  have hsz : (((w.alloc (.cells #[.slice A rl.length c, .int .i64 lost] 27)).alloc (.cells #[.string (strOfNums x.1), .int .i64 x.2] 36)).alloc (.cells #[.slice none 0 0, .int .i64 0] 27)).heap.size = w.heap.size + 3 := by simp
  obtain ⟨wa, hwaE⟩ : ∃ wa, ((w.alloc (.cells #[.slice A rl.length c, .int .i64 lost] 27)).alloc (.cells #[.string (strOfNums x.1), .int .i64 x.2] 36)).alloc (.cells #[.slice none 0 0, .int .i64 0] 27) = wa := ⟨_, rfl⟩
  rw [hwaE] at HB0 K2 K3 K4 hsz
  have HWE := Lib.hid hwaE
  have HSZ := Lib.hid hsz
  have HR := Lib.hid (h.later HB0.out)
  have z2 : wa.drew.cell? ⟨w.heap.size, 0, none⟩ = some (.slice A rl.length c) := K2.out.cell 0
  have z3 : wa.drew.cell? ⟨w.heap.size + 1, 0, none⟩ = some (.string (strOfNums x.1)) := K3.out.cell 0
  have z4 : wa.drew.cell? ⟨w.heap.size + 1, 1, none⟩ = some (.int .i64 x.2) := K3.out.cell 1
  have z2a : ∀ o, (wa.alloc o).cell? ⟨w.heap.size, 0, none⟩ = some (.slice A rl.length c) := fun o => (K2.out.more o).cell 0
  have z3a : ∀ o, (wa.alloc o).cell? ⟨w.heap.size + 1, 0, none⟩ = some (.string (strOfNums x.1)) := fun o => (K3.out.more o).cell 0
  have z4a : ∀ o, (wa.alloc o).cell? ⟨w.heap.size + 1, 1, none⟩ = some (.int .i64 x.2) := fun o => (K3.out.more o).cell 1
  have z2b : ∀ o o', ((wa.alloc o).alloc o').cell? ⟨w.heap.size, 0, none⟩ = some (.slice A rl.length c) := fun o o' => ((K2.out.more o).more o').cell 0
  have z3b : ∀ o o', ((wa.alloc o).alloc o').cell? ⟨w.heap.size + 1, 0, none⟩ = some (.string (strOfNums x.1)) := fun o o' => ((K3.out.more o).more o').cell 0
  have z4b : ∀ o o', ((wa.alloc o).alloc o').cell? ⟨w.heap.size + 1, 1, none⟩ = some (.int .i64 x.2) := fun o o' => ((K3.out.more o).more o').cell 1
  clear h hwaE hsz
  go_enter Try.func8, Try.ntmps8
  go_upto_region 4 with fail
  rw [HWE.out]
  go_cut [] (fun wx => Hid (∃ A2 c2, Blk wx w.heap.size 27 #[.slice A2 (rl.length + 1) c2, .int .i64 lost] ∧ Blk wx (w.heap.size + 1 + 1) 27 #[.slice none 0 0, .int .i64 0] ∧ RefIs wx wa.heap.size (.slice A2 (rl.length + 1) c2) (rl ++ [x]) ∧ Below w.heap.size w wx))
  case first =>
    go_region_law (first
      | ((fail_if_success (have h9 := O1)); refine step_ref_append _ rfl _ _ rfl rfl _ _ rfl rfl wa.heap.size [] rl ((ref_empty wa _ (Nat.le_refl _)).later ((Below.refl _ _).drew)) (HR.out.src.later (((Below.refl wa.heap.size wa).alloc (Nat.le_refl _) _).drew)) (by simp <;> omega) (by simp; omega) wa (((Below.refl _ wa).alloc (Nat.le_refl _) _).drew) ?_; intro A1 c1 w1 ho1 hb1 hg1; rw [List.nil_append, List.length_nil, Nat.zero_add] at ho1; have O1 := Lib.hid ho1; have B1 := Lib.hid hb1; have y3 : w1.cell? ⟨w.heap.size + 1, 0, none⟩ = some (.string (strOfNums x.1)) := ((K3.out.below hb1 K3.out.lt).cell 0).trans rfl; have y4 : w1.cell? ⟨w.heap.size + 1, 1, none⟩ = some (.int .i64 x.2) := ((K3.out.below hb1 K3.out.lt).cell 1).trans rfl; clear ho1 hb1 hg1)
      | ((fail_if_success (have h9 := O1)); refine step_ref_append _ rfl _ _ rfl rfl _ _ rfl rfl wa.heap.size [] rl ((ref_empty wa _ (Nat.le_refl _)).later (((Below.refl _ _).alloc (Nat.le_refl _) _).drew)) (HR.out.src.later ((((Below.refl wa.heap.size wa).alloc (Nat.le_refl _) _).alloc (by simp <;> omega) _).drew)) (by simp <;> omega) (by simp; omega) wa ((((Below.refl _ wa).alloc (Nat.le_refl _) _).alloc (by simp <;> omega) _).drew) ?_; intro A1 c1 w1 ho1 hb1 hg1; have L1 := Lib.hid (RSrc.grown (((ref_one1 wa (.cells #[] 36) x).later ((Below.refl _ _).drew))) hg1 (by simp [Value.ownBlock, Act.eval, go_sem])); rw [List.nil_append, List.length_nil, Nat.zero_add] at ho1; have O1 := Lib.hid ho1; have B1 := Lib.hid hb1; have y3 : w1.cell? ⟨w.heap.size + 1, 0, none⟩ = some (.string (strOfNums x.1)) := ((K3.out.below hb1 K3.out.lt).cell 0).trans rfl; have y4 : w1.cell? ⟨w.heap.size + 1, 1, none⟩ = some (.int .i64 x.2) := ((K3.out.below hb1 K3.out.lt).cell 1).trans rfl; clear ho1 hb1 hg1)
      | ((fail_if_success (have h9 := O1)); refine step_ref_append _ rfl _ _ rfl rfl _ _ rfl rfl wa.heap.size [] rl ((ref_empty1 wa (.cells #[.string (strOfNums x.1), .int .i64 x.2] 36) wa.heap.size (by simp <;> omega)).later ((Below.refl _ _).drew)) (HR.out.src.later ((((Below.refl wa.heap.size wa).alloc (Nat.le_refl _) _).alloc (by simp <;> omega) _).drew)) (by simp <;> omega) (by simp; omega) wa ((((Below.refl _ wa).alloc (Nat.le_refl _) _).alloc (by simp <;> omega) _).drew) ?_; intro A1 c1 w1 ho1 hb1 hg1; have L1 := Lib.hid (RSrc.grown ((((ref_one wa x).later ((Below.refl _ _).alloc (Nat.le_refl _) (.cells #[] 36))).later ((Below.refl _ _).drew))) hg1 (by simp [Value.ownBlock, Act.eval, go_sem])); rw [List.nil_append, List.length_nil, Nat.zero_add] at ho1; have O1 := Lib.hid ho1; have B1 := Lib.hid hb1; have y3 : w1.cell? ⟨w.heap.size + 1, 0, none⟩ = some (.string (strOfNums x.1)) := ((K3.out.below hb1 K3.out.lt).cell 0).trans rfl; have y4 : w1.cell? ⟨w.heap.size + 1, 1, none⟩ = some (.int .i64 x.2) := ((K3.out.below hb1 K3.out.lt).cell 1).trans rfl; clear ho1 hb1 hg1)
      | ((fail_if_success (have h9 := L1)); (have hO1 := O1); clear hO1; refine step_ref_append _ rfl _ _ rfl rfl _ _ rfl rfl wa.heap.size rl [x] (O1.out.later ((Below.refl _ _).alloc (Nat.le_refl _) _)) (ref_one w1 x) (Nat.le_trans B1.out.size (by simp <;> omega)) (by simp; omega) wa (B1.out.alloc B1.out.size _) ?_; intro A2 c2 w2 ho2 hb2 hg2; have O2 := Lib.hid ho2; have B2 := Lib.hid hb2; have y5 : w2.cell? ⟨w.heap.size, 0, none⟩ = some (.slice A rl.length c) := ((K2.out.below hb2 K2.out.lt).cell 0).trans rfl; have y6 := (K2.out.below hb2 K2.out.lt).free 0; clear ho2 hb2 hg2)
      | ((have hL1 := L1); clear hL1; refine step_ref_append _ rfl _ _ rfl rfl _ _ rfl rfl wa.heap.size rl [x] O1.out L1.out B1.out.size (by simp; omega) wa B1.out ?_; intro A2 c2 w2 ho2 hb2 hg2; have O2 := Lib.hid ho2; have B2 := Lib.hid hb2; have y5 : w2.cell? ⟨w.heap.size, 0, none⟩ = some (.slice A rl.length c) := ((K2.out.below hb2 K2.out.lt).cell 0).trans rfl; have y6 := (K2.out.below hb2 K2.out.lt).free 0; clear ho2 hb2 hg2))
    all_goals
      go_wp2_with fail
      go_meet
      refine ⟨A2, c2, (K2.out.below B2.out K2.out.lt).put 0 _ rfl, Blk.away (K4.out.below B2.out K4.out.lt) (by show w.heap.size + 1 + 1 ≠ w.heap.size; omega) _, ?_, ?_⟩
      · exact ⟨O2.out.1, O2.out.2.imp id fun ⟨g, cap, cur, h1, h2, h3, h4⟩ => ⟨g, cap, cur, h1, h2, Blk.away h3 (by have := HSZ.out; show g ≠ w.heap.size; omega) _, h4⟩⟩
      · exact (HB0.out.trans (B2.out.mono HB0.out.size)).setCell (Nat.le_refl _) _
  case rest =>
    obtain ⟨A2, c2, k2, k4, ho, hb⟩ := hcut.out
    have y0 : wc.cell? ⟨w.heap.size, 0, none⟩ = some (.slice A2 (rl.length + 1) c2) := (k2.cell 0).trans rfl
    have y1 : wc.cell? ⟨w.heap.size, 1, none⟩ = some (.int .i64 lost) := (k2.cell 1).trans rfl
    have y2 : wc.cell? ⟨w.heap.size + 1 + 1, 0, none⟩ = some (.slice none 0 0) := (k4.cell 0).trans rfl
    have y3 : wc.cell? ⟨w.heap.size + 1 + 1, 1, none⟩ = some (.int .i64 0) := (k4.cell 1).trans rfl
    have y4 := k4.free 0
    have y5 := k4.free 1
    have K4H := Lib.hid k4
    have HO := Lib.hid ho
    have HB := Lib.hid hb
    clear hcut k2 k4 ho hb
    go_wp2_with fail
    refine bodyPost_ret (results_cell_tmp' rfl _ _ (w.heap.size + 1 + 1) 27 _ _ _ rfl ((K4H.out.put 0 (.slice A2 (rl.length + 1) c2) rfl).put 1 (.int .i64 lost) rfl) Try.underlying27 rfl size27) rfl ?_
    have hh := HSZ.out
    refine ⟨A2, c2, by simp, ?_, (HB.out.setCell (by show w.heap.size ≤ w.heap.size + 1 + 1; omega) _).setCell (by show w.heap.size ≤ w.heap.size + 1 + 1; omega) _⟩
    rw [show (rl ++ [x]).length = rl.length + 1 by simp]
    exact RefIs.base (B := wa.heap.size) ⟨HO.out.1, HO.out.2.imp id fun ⟨g, cap, cur, h1, h2, h3, h4⟩ => ⟨g, cap, cur, h1, h2, Blk.away (Blk.away h3 (by show g ≠ w.heap.size + 1 + 1; omega) _) (by show g ≠ w.heap.size + 1 + 1; omega) _, h4⟩⟩ (by omega)
end Go.Proofs.Ytiooikjaalphiaa
