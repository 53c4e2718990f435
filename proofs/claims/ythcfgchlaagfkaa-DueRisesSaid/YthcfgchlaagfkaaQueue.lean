/-
  The queue: New, is, Len, Peek. No condition.
-/
import Derived.Test.YthcfgchlaagfkaaDels
import Derived.BigQuiet
namespace Go.Proofs.Ythcfgchlaagfkaa
open Go.ChangeShapes Go.WideShapes Go.ChangeAt Go.RowKit
set_option linter.unusedVariables false
set_option linter.unusedSimpArgs false

theorem is_blk (H : Nat) (b : Bool) (x y : Value) (w : World) (h : Blk w H 46 #[.bool b, x, y]) : Calls Try.prog 17 #[.pointer (some ⟨H, 0, none⟩)] w fun e w' => e = .returned (.bool b) ∧ w = w' := by
  have c0 : w.cell? ⟨H, 0, none⟩ = some (.bool b) := h.cell 0
  clear h
  go_enter Try.func17, Try.ntmps17
  go_wp2
  go_ret
  exact ⟨rfl, rfl⟩
theorem is_nil (w : World) : Calls Try.prog 17 #[.pointer none] w fun e w' => e = .returned (.bool false) ∧ w = w' := by
  go_enter Try.func17, Try.ntmps17
  go_wp2
  go_ret
  exact ⟨rfl, rfl⟩
/-- No queue: none that there is, or none that a call made. -/
def NoQueue (w : World) (x : Value) : Prop := x = .pointer none ∨ ∃ H, x = .pointer (some ⟨H, 0, none⟩) ∧ Blk w H 46 #[.bool false, .slice none 0 0, .int .i64 0]
theorem NoQueue.later {w v : World} {x : Value} (h : NoQueue w x) (hb : Below w.heap.size w v) : NoQueue v x :=
  h.imp id fun ⟨H, e, hh⟩ => ⟨H, e, hh.below hb hh.lt⟩
theorem is_none (x : Value) (w : World) (h : NoQueue w x) : Calls Try.prog 17 #[x] w fun e w' => e = .returned (.bool false) ∧ w = w' := by
  rcases h with rfl | ⟨H, rfl, hh⟩
  · exact is_nil w
  · exact is_blk H false _ _ w hh
theorem len_none (x : Value) (w : World) (h : NoQueue w x) : Calls Try.prog 13 #[x] w fun e w' => e = .returned (.int .i64 0) ∧ w = w' := by
  have HH := Lib.hid (is_none x w h)
  clear h
  go_enter Try.func13, Try.ntmps13
  go_wp2_with fail
  refine HH.out.mono ?_; rintro e w' ⟨rfl, rfl⟩
  go_wp2
  go_ret
  exact ⟨rfl, rfl⟩
/-- A queue of l items, that counts sq. -/
structure QIs (w : World) (H B : Nat) (v : Value) (l : List It) (sq : Int) : Prop where
  at_ : At w B H 1 46 #[.bool true, v, .int .i64 sq] v l
  heap : IsHeap l
section
variable {w w' : World} {H B : Nat} {v : Value} {l : List It} {sq : Int}
theorem QIs.later (h : QIs w H B v l sq) (hb : Below w.heap.size w w') : QIs w' H B v l sq := ⟨h.at_.later hb, h.heap⟩
theorem new_any (w : World) : Calls Try.prog 6 #[] w fun e w' => ∃ N, e = .returned (.pointer (some ⟨N, 0, none⟩)) ∧ QIs w' N w.heap.size (.slice none 0 0) [] 0 ∧ w.heap.size ≤ N ∧ Below w.heap.size w w' := by
  have HB : Hid (Blk (w.alloc (.cells #[.bool true, .slice none 0 0, .int .i64 0] 46)) w.heap.size 46 #[.bool true, .slice none 0 0, .int .i64 0]) := Blk.new _ _ _
  go_enter Try.func6, Try.ntmps6
  go_wp2
  go_ret
  exact ⟨_, rfl, ⟨⟨HB.out, rfl, World.ownsRow_nil _ _ _ _, by decide, by simp⟩, fun k _ hk => absurd hk (Nat.not_lt_zero _)⟩, Nat.le_refl _, (Below.refl _ _).alloc (Nat.le_refl _) _⟩
theorem len_q (h : QIs w H B v l sq) : Calls Try.prog 13 #[.pointer (some ⟨H, 0, none⟩)] w fun e w' => e = .returned (.int .i64 (l.length : Int)) ∧ w = w' := by
  have HH := Lib.hid (is_blk H true _ _ w h.at_.blk)
  obtain ⟨A, c, rfl⟩ := h.at_.row.form
  have x1 := h.at_.holds
  clear h
  go_enter Try.func13, Try.ntmps13
  go_wp2_with fail
  refine HH.out.mono ?_; rintro e w' ⟨rfl, rfl⟩
  go_wp2
  go_ret
  exact ⟨rfl, rfl⟩
/-- Empty, now and later. -/
def Dead (w : World) (x : Value) : Prop := ∀ w', Below w.heap.size w w' → Calls Try.prog 13 #[x] w' fun e w2 => e = .returned (.int .i64 0) ∧ w' = w2
theorem NoQueue.dead {x : Value} (h : NoQueue w x) : Dead w x := fun w' hb => len_none x w' (h.later hb)
theorem QIs.dead (h : QIs w H B v [] sq) : Dead w (.pointer (some ⟨H, 0, none⟩)) := fun w' hb => len_q (h.later hb)
theorem peek_dead (x : Value) (h : Dead w x) : Calls Try.prog 12 #[x] w fun e w' => e = .returned (.tuple #[.int .i64 0, .int .i64 0, .bool false]) ∧ w = w' := by
  have HH := Lib.hid (h w (Below.refl _ _))
  clear h
  go_enter Try.func12, Try.ntmps12
  go_wp2_with fail
  refine HH.out.mono ?_; rintro e w' ⟨rfl, rfl⟩
  go_wp2
  go_returns
  exact ⟨rfl, rfl⟩
theorem next_dead (x : Value) (now : Int) (h : Dead w x) : Calls Try.prog 9 #[x, .int .i64 now] w fun e w' => e = .returned (.tuple #[.int .i64 0, .bool false]) ∧ w = w' := by
  have HH := Lib.hid (peek_dead x h)
  clear h
  go_enter Try.func9, Try.ntmps9
  go_wp2_with fail
  refine HH.out.mono ?_; rintro e w' ⟨rfl, rfl⟩
  go_wp2
  go_returns
  exact ⟨rfl, rfl⟩
theorem remove_dead (x : Value) (id : Int) (h : Dead w x) : Calls Try.prog 11 #[x, .int .i64 id] w fun e w' => e = .returned (.int .i64 0) ∧ Below w.heap.size w w' := by
  have HB : Hid (Below w.heap.size w (w.alloc (.cells #[.int .i64 id] 3))) := (Below.refl _ _).alloc (Nat.le_refl _) _
  have HH := Lib.hid (h _ HB.out)
  clear h
  go_enter Try.func11, Try.ntmps11
  go_wp2_with fail
  refine HH.out.mono ?_; rintro e w' ⟨rfl, rfl⟩
  go_wp2
  go_ret
  exact ⟨rfl, HB.out⟩
theorem all_dead (x : Value) (h : Dead w x) : Calls Try.prog 15 #[x] w fun e w' => e = .returned (.slice none 0 0) ∧ w = w' := by
  have HH := Lib.hid (h w (Below.refl _ _))
  clear h
  go_enter Try.func15, Try.ntmps15
  go_wp2_with fail
  refine HH.out.mono ?_; rintro e w' ⟨rfl, rfl⟩
  go_wp2
  go_ret
  exact ⟨rfl, rfl⟩
theorem add_none (x : Value) (a id : Int) (h : NoQueue w x) : Calls Try.prog 7 #[x, .int .i64 a, .int .i64 id] w fun e w' => (∃ r, e = .returned r) ∧ w = w' := by
  have HH := Lib.hid (is_none x w h)
  clear h
  go_enter Try.func7, Try.ntmps7
  go_wp2_with fail
  refine HH.out.mono ?_; rintro e w' ⟨rfl, rfl⟩
  go_wp2
  go_returns
  exact ⟨⟨_, rfl⟩, rfl⟩
set_option maxHeartbeats 1600000 in
theorem peek_q (h : QIs w H B v l sq) (hp : 0 < l.length) (hm : l.length ≤ 1000000) : Calls Try.prog 12 #[.pointer (some ⟨H, 0, none⟩)] w fun e w' => e = .returned (.tuple #[.int .i64 (gx l 0).at_, .int .i64 (gx l 0).id, .bool true]) ∧ Below w.heap.size w w' := by
  have HH := Lib.hid (len_q h)
  obtain ⟨A, c, rfl⟩ := h.at_.row.form
  obtain ⟨g, rfl, hc, hc2⟩ := h.at_.row.some_ rfl hp
  have x1 := h.at_.holds
  obtain ⟨y0, y1, _⟩ := h.at_.row.cells rfl 0 hp
  rw [gx_at l 0 hp]
  rw [show 0 * 3 = 0 from rfl] at y0 y1
  rw [show 0 + 1 = 1 from rfl] at y1
  generalize l[0] = x at *
  generalize l.length = n at *
  have b1 : (0 : Int) < (n : Int) := by omega
  have b2 : ¬ (n : Int) = 0 := by omega
  clear h
  go_enter Try.func12, Try.ntmps12
  go_wp2_with fail
  refine HH.out.mono ?_; rintro e w' ⟨rfl, rfl⟩
  go_wp2_with fail
  go_quiet (fail)
  go_wp2_with fail
  go_returns
  exact ⟨rfl, below_draws (Below.refl _ _) _⟩
end
end Go.Proofs.Ythcfgchlaagfkaa
