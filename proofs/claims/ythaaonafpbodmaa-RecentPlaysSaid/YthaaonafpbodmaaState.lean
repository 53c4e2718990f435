/-
  A list's cells, and the walks that only look: own, in, may, Len, Has. No condition.
-/
import Derived.Test.YthaaonafpbodmaaRing
import Derived.Test.YthaaonafpbodmaaMem
import Derived.Deep.RegionHeld3
import Derived.WalkSpells
import Derived.WalkLawsBesides
import Derived.RegionTactic
import Derived.Deep.RegionWith
import Derived.BigRegion
import Derived.Deep.DeepCutAuto
namespace Go.Proofs.Ythaaonafpbodmaa
open Go.ChangeShapes Go.WideShapes Go.ChangeAt Go.RowKit
set_option linter.unusedVariables false
set_option linter.unusedSimpArgs false

def Arr (w : World) (D n : Nat) (f : Nat → Int) : Prop := ∃ cs : Array Value, Blk w D 3 cs ∧ cs.size = n + 1 ∧ ∀ i, i ≤ n → cs[i]? = some (.int .i64 (f i))
theorem Arr.cell {w : World} {D n : Nat} {f : Nat → Int} (h : Arr w D n f) {i : Nat} (hi : i ≤ n) : w.cell? ⟨D, i, none⟩ = some (.int .i64 (f i)) := by
  obtain ⟨cs, hb, _, hc⟩ := h
  exact (hb.cell i).trans (hc i hi)
theorem Arr.free {w : World} {D n : Nat} {f : Nat → Int} (h : Arr w D n f) (i : Nat) : w.frozen? ⟨D, i, none⟩ = false := by
  obtain ⟨cs, hb, _, _⟩ := h
  exact hb.free i
theorem Arr.put {w : World} {D n : Nat} {f : Nat → Int} (h : Arr w D n f) (i : Nat) (v : Int) : Arr (w.setCell ⟨D, i, none⟩ (.int .i64 v)) D n (set1 f i v) := by
  obtain ⟨cs, hb, hs, hc⟩ := h
  refine ⟨_, hb.put i _ rfl, by simpa using hs, fun j hj => ?_⟩
  rw [Array.getElem?_setIfInBounds]
  by_cases hij : i = j
  · subst hij
    rw [if_pos rfl, if_pos (by omega), set1_same]
  · rw [if_neg hij, hc j hj, set1_other _ _ (Ne.symm hij)]
theorem Arr.away {w : World} {D n : Nat} {f : Nat → Int} (h : Arr w D n f) {p : Addr} (hp : D ≠ p.block) (x : Value) : Arr (w.setCell p x) D n f := by
  obtain ⟨cs, hb, hs, hc⟩ := h
  exact ⟨cs, hb.away hp x, hs, hc⟩
def rcells (n : Nat) (D U : Nat) (m : Int) : Array Value := #[.slice (some ⟨D, 0, none⟩) (n + 1) (n + 1), .slice (some ⟨U, 0, none⟩) (n + 1) (n + 1), .int .i64 m]
/-- The list at L: its ring at R, ahead at D, behind at U. -/
structure RS (w : World) (L R D U n : Nat) (up dn : Nat → Int) (m : Int) : Prop where
  l : Blk w L 41 #[.pointer (some ⟨R, 0, none⟩)]
  r : Blk w R 43 (rcells n D U m)
  d : Arr w D n dn
  u : Arr w U n up
  ne : D ≠ U

section
variable {w : World} {L R D U n : Nat} {up dn : Nat → Int} {m : Int}
theorem RS.neLD (h : RS w L R D U n up dn m) : L ≠ D := by obtain ⟨cs, hb, _⟩ := h.d; exact h.l.differ hb (by decide)
theorem RS.neLU (h : RS w L R D U n up dn m) : L ≠ U := by obtain ⟨cs, hb, _⟩ := h.u; exact h.l.differ hb (by decide)
theorem RS.neRD (h : RS w L R D U n up dn m) : R ≠ D := by obtain ⟨cs, hb, _⟩ := h.d; exact h.r.differ hb (by decide)
theorem RS.neRU (h : RS w L R D U n up dn m) : R ≠ U := by obtain ⟨cs, hb, _⟩ := h.u; exact h.r.differ hb (by decide)
theorem RS.neLR (h : RS w L R D U n up dn m) : L ≠ R := h.l.differ h.r (by decide)
theorem RS.setU (h : RS w L R D U n up dn m) (a : Nat) (v : Int) : RS (w.setCell ⟨U, a, none⟩ (.int .i64 v)) L R D U n (set1 up a v) dn m :=
  ⟨h.l.away h.neLU _, h.r.away h.neRU _, h.d.away h.ne _, h.u.put a v, h.ne⟩
theorem RS.setD (h : RS w L R D U n up dn m) (a : Nat) (v : Int) : RS (w.setCell ⟨D, a, none⟩ (.int .i64 v)) L R D U n up (set1 dn a v) m :=
  ⟨h.l.away h.neLD _, h.r.away h.neRD _, h.d.put a v, h.u.away (Ne.symm h.ne) _, h.ne⟩
theorem RS.setM (h : RS w L R D U n up dn m) (v : Int) : RS (w.setCell ⟨R, 2, none⟩ (.int .i64 v)) L R D U n up dn v :=
  ⟨h.l.away h.neLR _, h.r.put 2 _ rfl, h.d.away (Ne.symm h.neRD) _, h.u.away (Ne.symm h.neRU) _, h.ne⟩
theorem RS.join (h : RS w L R D U n up dn m) (a b : Nat) : RS ((w.setCell ⟨U, a, none⟩ (.int .i64 b)).setCell ⟨D, b, none⟩ (.int .i64 a)) L R D U n (set1 up a b) (set1 dn b a) m :=
  (h.setU a b).setD b a
end
theorem own_any (R n D U : Nat) (m : Int) (w : World) (h : Blk w R 43 (rcells n D U m)) (hn : n ≤ 256) : Calls Try.prog 20 #[.pointer (some ⟨R, 0, none⟩)] w fun e w' => e = .returned (.int .i64 n) ∧ w = w' := by
  have c0 : w.cell? ⟨R, 0, none⟩ = some (.slice (some ⟨D, 0, none⟩) (n + 1) (n + 1)) := h.cell 0
  have HH := Lib.hid h
  clear h
  go_enter Try.func20, Try.ntmps20
  go_wp2
  go_ret
  exact ⟨ret_int (by omega), rfl⟩
theorem in_any (L R D U n i : Nat) (up dn : Nat → Int) (m : Int) (w : World) (h : RS w L R D U n up dn m) (hn : n ≤ 256) (hi : i ≤ n) : Calls Try.prog 21 #[.pointer (some ⟨R, 0, none⟩), .int .i64 i] w fun e w' => e = .returned (.bool (decide (0 ≤ up i))) ∧ w = w' := by
  have c1 : w.cell? ⟨R, 1, none⟩ = some (.slice (some ⟨U, 0, none⟩) (n + 1) (n + 1)) := h.r.cell 1
  have cu := h.u.cell hi
  have HH := Lib.hid h
  clear h
  go_enter Try.func21, Try.ntmps21
  go_wp2
  go_ret
  exact ⟨ret_bool (by simp), rfl⟩
theorem len_any (L R D U n : Nat) (up dn : Nat → Int) (m : Int) (w : World) (h : RS w L R D U n up dn m) : Calls Try.prog 14 #[.pointer (some ⟨L, 0, none⟩)] w fun e w' => e = .returned (.int .i64 m) ∧ w = w' := by
  have c0 : w.cell? ⟨L, 0, none⟩ = some (.pointer (some ⟨R, 0, none⟩)) := h.l.cell 0
  have c2 : w.cell? ⟨R, 2, none⟩ = some (.int .i64 m) := h.r.cell 2
  have HH := Lib.hid h
  clear h
  go_enter Try.func14, Try.ntmps14
  go_wp2
  go_ret
  exact ⟨ret_int rfl, rfl⟩
theorem len_nil (w : World) : Calls Try.prog 14 #[.pointer none] w fun e w' => e = .returned (.int .i64 0) ∧ w = w' := by
  go_enter Try.func14, Try.ntmps14
  go_wp2
  go_ret
  exact ⟨ret_int rfl, rfl⟩
theorem len_bare (L : Nat) (w : World) (h : Blk w L 41 #[.pointer none]) : Calls Try.prog 14 #[.pointer (some ⟨L, 0, none⟩)] w fun e w' => e = .returned (.int .i64 0) ∧ w = w' := by
  have c0 : w.cell? ⟨L, 0, none⟩ = some (.pointer none) := h.cell 0
  clear h
  go_enter Try.func14, Try.ntmps14
  go_wp2
  go_ret
  exact ⟨ret_int rfl, rfl⟩
theorem may_nil (i : Int) (w : World) : Calls Try.prog 17 #[.pointer none, .int .i64 i] w fun e w' => e = .returned (.bool false) ∧ w = w' := by
  go_enter Try.func17, Try.ntmps17
  go_wp2
  go_ret
  exact ⟨ret_bool rfl, rfl⟩
theorem may_bare (L : Nat) (i : Int) (w : World) (h : Blk w L 41 #[.pointer none]) : Calls Try.prog 17 #[.pointer (some ⟨L, 0, none⟩), .int .i64 i] w fun e w' => e = .returned (.bool false) ∧ w = w' := by
  have c0 : w.cell? ⟨L, 0, none⟩ = some (.pointer none) := h.cell 0
  clear h
  go_enter Try.func17, Try.ntmps17
  go_wp2
  go_ret
  exact ⟨ret_bool rfl, rfl⟩
theorem may_any (L R D U n : Nat) (i : Int) (up dn : Nat → Int) (m : Int) (w : World) (h : RS w L R D U n up dn m) (hn : n ≤ 256) : Calls Try.prog 17 #[.pointer (some ⟨L, 0, none⟩), .int .i64 i] w fun e w' => e = .returned (.bool (decide (0 ≤ i ∧ i < n))) ∧ w = w' := by
  have c0 : w.cell? ⟨L, 0, none⟩ = some (.pointer (some ⟨R, 0, none⟩)) := h.l.cell 0
  have HH := Lib.hid h
  clear h
  by_cases h0 : 0 ≤ i
  · go_enter Try.func17, Try.ntmps17
    go_wp2_with fail
    refine (own_any R n D U m _ HH.out.r hn).mono ?_; rintro e w' ⟨rfl, rfl⟩
    go_wp2
    go_ret
    exact ⟨ret_bool (by simp [h0]), rfl⟩
  · go_enter Try.func17, Try.ntmps17
    go_wp2
    go_ret
    exact ⟨ret_bool (by simp [h0]; omega), rfl⟩

theorem join_any (L R D U n a b : Nat) (up dn : Nat → Int) (m : Int) (w : World) (h : RS w L R D U n up dn m) (hn : n ≤ 256) (ha : a ≤ n) (hb : b ≤ n) : Calls Try.prog 16 #[.pointer (some ⟨R, 0, none⟩), .int .i64 a, .int .i64 b] w fun e w' => e = .returned (.tuple #[]) ∧ RS w' L R D U n (set1 up a b) (set1 dn b a) m ∧ Chg (fun k => k = D ∨ k = U) w w' := by
  have c0 : w.cell? ⟨R, 0, none⟩ = some (.slice (some ⟨D, 0, none⟩) (n + 1) (n + 1)) := h.r.cell 0
  have c1 : w.cell? ⟨R, 1, none⟩ = some (.slice (some ⟨U, 0, none⟩) (n + 1) (n + 1)) := h.r.cell 1
  have cu := h.u.cell ha
  have cd := h.d.cell hb
  have fu := h.u.free a
  have fd := h.d.free b
  have hne := h.ne
  have hne2 := Ne.symm h.ne
  have HH := Lib.hid h
  clear h
  go_enter Try.func16, Try.ntmps16
  go_wp2_with fail
  go_region
  all_goals
    go_wp2
    go_end0
    refine ⟨rfl, ?_, ?_⟩
    · have h1 := HH.out.join a b
      exact ⟨h1.l, h1.r, h1.d, h1.u, h1.ne⟩
    · exact Chg.draw (Chg.put (Chg.put (Chg.refl _ _) (by exact Or.inl (Or.inr rfl)) _) (by exact Or.inl (Or.inl rfl)) _)
end Go.Proofs.Ythaaonafpbodmaa
