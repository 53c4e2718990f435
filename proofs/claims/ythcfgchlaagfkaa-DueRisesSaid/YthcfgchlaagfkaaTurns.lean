/-
  The queue: Add, Next, Remove. No condition beyond a row of a machine's size.
-/
import Derived.Test.YthcfgchlaagfkaaQueue
namespace Go.Proofs.Ythcfgchlaagfkaa
open Go.ChangeShapes Go.WideShapes Go.ChangeAt Go.RowKit
set_option linter.unusedVariables false
set_option linter.unusedSimpArgs false

section
variable {w w' : World} {B Q H f : Nat} {T : TypeId} {cs : Array Value} {v : Value} {l : List It} {sq : Int}
set_option maxHeartbeats 800000 in
theorem push_any (p : It) (h : At w B Q f T cs v l) (hh : IsHeap l) (hm : l.length ≤ 1000000) :
    Calls Try.prog 18 #[.iface 49 (.pointer (some ⟨Q, f, none⟩)), .agg #[.int .i64 p.at_, .int .i64 p.id, .int .i64 p.seq]] w fun e w' => (∃ r, e = .returned r) ∧ ∃ v' l', At w' B Q f T (cs.setIfInBounds f v') v' l' ∧ IsHeap l' ∧ l'.Perm (l ++ [p]) ∧ Chg (OwnQ Q v) w w' := by
  have HB : Hid (Below w.heap.size w (w.alloc (.cells #[.int .i64 p.at_, .int .i64 p.id, .int .i64 p.seq] 51))) := (Below.refl _ _).alloc (Nat.le_refl _) _
  have HP := Lib.hid (hpush_any p (h.later HB.out) hh hm)
  clear h hh
  go_enter Try.func18, Try.ntmps18
  go_wp2_with fail
  refine HP.out.mono ?_; rintro e w2 ⟨⟨r, rfl⟩, v', l', h1, h2, h3, h4⟩
  have H1 := Lib.hid h1
  have H4 := Lib.hid h4
  clear h1 h4
  go_wp2_with fail
  go_returns
  exact ⟨⟨_, rfl⟩, v', l', H1.out, h2, h3, (Chg.of_below HB.out).trans H4.out (fun _ _ e => e)⟩
theorem QIs.mk' {v' : Value} (h : At w B H 1 46 ((#[.bool true, v, .int .i64 sq] : Array Value).setIfInBounds 1 v') v' l) (hh : IsHeap l) : QIs w H B v' l sq := ⟨h, hh⟩
set_option maxHeartbeats 1600000 in
theorem add_q (a id : Int) (h : QIs w H B v l sq) (hm : l.length ≤ 1000000) (h0 : 0 ≤ sq) (h1 : sq ≤ 1000000) :
    Calls Try.prog 7 #[.pointer (some ⟨H, 0, none⟩), .int .i64 a, .int .i64 id] w fun e w' => (∃ r, e = .returned r) ∧ ∃ v' l', QIs w' H B v' l' (sq + 1) ∧ l'.Perm (l ++ [⟨a, id, sq + 1⟩]) ∧ Chg (OwnQ H v) w w' := by
  have HH := Lib.hid (is_blk H true _ _ w h.at_.blk)
  have c2 : w.cell? ⟨H, 2, none⟩ = some (.int .i64 sq) := h.at_.blk.cell 2
  have f2 := h.at_.blk.free 2
  have e1 : wrap64 (sq + 1) = sq + 1 := IntWalk.wrap64_in _ (by omega)
  have e2 : IntKind.i64.wrap (sq + 1) = sq + 1 := IntWalk.i64_in _ (by omega)
  have hc : Chg (OwnQ H v) w (w.setCell ⟨H, 2, none⟩ (.int .i64 (sq + 1))) := Chg.put (Chg.refl _ _) (by exact Or.inl (Or.inl rfl)) _
  have hat : At (w.setCell ⟨H, 2, none⟩ (.int .i64 (sq + 1))) B H 1 46 #[.bool true, v, .int .i64 (sq + 1)] v l :=
    ⟨h.at_.blk.put 2 _ rfl, rfl, own_away h.at_.row _ _ h.at_.notQ, by decide, Nat.le_trans h.at_.le hc.size⟩
  have c3 : (w.setCell ⟨H, 2, none⟩ (.int .i64 (sq + 1))).cell? ⟨H, 2, none⟩ = some (.int .i64 (sq + 1)) := hat.blk.cell 2
  have HC := Lib.hid hc
  have HP := Lib.hid (push_any ⟨a, id, sq + 1⟩ (hat.later ((Below.refl _ _).drew)) h.heap hm)
  clear h hc hat
  go_enter Try.func7, Try.ntmps7
  go_wp2_with fail
  refine HH.out.mono ?_; rintro e w1 ⟨rfl, rfl⟩
  go_upto_region 2 with fail
  generalize w.setCell ⟨H, 2, none⟩ (.int .i64 (sq + 1)) = wq at *
  go_still_tail 11, (by kernel_rfl)
  go_wp2_with fail
  refine HP.out.mono ?_; rintro e w2 ⟨⟨r, rfl⟩, v', l', h1, h2, h3, h4⟩
  have H1 := Lib.hid h1
  have H4 := Lib.hid h4
  clear h1 h4
  go_wp2_with fail
  go_returns
  exact ⟨⟨_, rfl⟩, v', l', QIs.mk' H1.out h2, h3, (HC.out.draw).trans H4.out (fun _ _ e => e)⟩
set_option maxHeartbeats 1600000 in
theorem next_no (now : Int) (h : QIs w H B v l sq) (hp : 0 < l.length) (hm : l.length ≤ 1000000) (hn : now < (gx l 0).at_) :
    Calls Try.prog 9 #[.pointer (some ⟨H, 0, none⟩), .int .i64 now] w fun e w' => e = .returned (.tuple #[.int .i64 0, .bool false]) ∧ Below w.heap.size w w' := by
  have HH := Lib.hid (peek_q h hp hm)
  have t1 : decide (now < (gx l 0).at_) = true := decide_eq_true hn
  clear h
  go_enter Try.func9, Try.ntmps9
  go_wp2_with fail
  refine HH.out.mono ?_; rintro e w' ⟨rfl, h1⟩
  have H1 := Lib.hid h1
  clear h1
  go_wp2
  go_returns
  exact ⟨rfl, H1.out⟩
set_option maxHeartbeats 1600000 in
theorem next_yes {n : Nat} (now : Int) (h : QIs w H B v l sq) (hl : l.length = n + 1) (hm : n ≤ 100000) (hn : (gx l 0).at_ ≤ now) :
    Calls Try.prog 9 #[.pointer (some ⟨H, 0, none⟩), .int .i64 now] w fun e w' => e = .returned (.tuple #[.int .i64 (gx l 0).id, .bool true]) ∧ ∃ v' l', QIs w' H B v' l' sq ∧ l'.length = n ∧ (l' ++ [gx l 0]).Perm l ∧ Chg (OwnQ H v) w w' := by
  have HH := Lib.hid (peek_q h (by omega) (by omega))
  have HQ := Lib.hid h
  have t1 : decide (now < (gx l 0).at_) = false := decide_eq_false (by omega)
  have HL := Lib.hid hl
  clear h hl
  generalize hx : gx l 0 = x at *
  have HX := Lib.hid hx
  clear hx
  go_enter Try.func9, Try.ntmps9
  go_wp2_with fail
  refine HH.out.mono ?_; rintro e w1 ⟨rfl, h1⟩
  have Q1 := Lib.hid (HQ.out.later h1)
  have H1 := Lib.hid h1
  have HP := Lib.hid (hpop_any Q1.out.at_ Q1.out.heap HL.out (by omega))
  rw [HX.out] at HP
  have hv : ∀ w, (Instr.typeAssert (.iface 51 (.agg #[.int .i64 x.at_, .int .i64 x.id, .int .i64 x.seq])) 20 51 false).run Try.prog w = .ok (.agg #[.int .i64 x.at_, .int .i64 x.id, .int .i64 x.seq]) w := fun w => assert51 _ w
  clear h1
  go_wp2_with fail
  refine HP.out.mono ?_; rintro e w2 ⟨rfl, g, c, l', hv', h2, h3, h4, h5, h6⟩
  have H3 := Lib.hid h3
  have H6 := Lib.hid h6
  clear h3 h6
  have tq := hv w2
  go_wp2_with fail
  go_returns
  have hb : Below w2.heap.size w2 (w2.alloc (.cells #[.int .i64 x.at_, .int .i64 x.id, .int .i64 x.seq] 51)) := (Below.refl _ _).alloc (Nat.le_refl _) _
  exact ⟨rfl, _, l', QIs.mk' (H3.out.later hb) h4, h2, h5, ((Chg.of_below H1.out).trans H6.out (fun _ _ e => e)).more _⟩
end
end Go.Proofs.Ythcfgchlaagfkaa
