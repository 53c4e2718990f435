/-
  Words for memory, for all texts of this seat: a block that is known whole; which blocks a call may have changed. No program in sight.
-/
import Derived.Test.YthcfgchlaagfkaaBase
import Derived.Deep.Draws
import Derived.Laws.OwnMore
import Derived.Laws.Rows
import Derived.Deep.QuietTactic
import Derived.BigQuiet
import Derived.RegionTactic
import Derived.Laws.EntriesVeiled
import Derived.Outline
namespace Go.Proofs.Ythcfgchlaagfkaa
open Go.ChangeShapes Go.WideShapes Go.ChangeAt Go.RowKit
set_option linter.unusedVariables false

/-- Block g is just the cells cs, of element type t, none of them frozen. -/
def Blk (w : World) (g : Nat) (t : TypeId) (cs : Array Value) : Prop := w.heap[g]? = some (.cells cs t (0, 0))

/-- From w to v: of the blocks that were there at most those in S have turned; nothing has gone. -/
structure Chg (S : Nat → Prop) (w v : World) : Prop where
  os : v.os = w.os
  tape : v.tape = w.tape
  output : v.output = w.output
  size : w.heap.size ≤ v.heap.size
  block : ∀ k, k < w.heap.size → ¬ S k → v.heap[k]? = w.heap[k]?

section
variable {w v u : World} {g : Nat} {t : TypeId} {cs ds : Array Value} {S R : Nat → Prop}

theorem Blk.lt (h : Blk w g t cs) : g < w.heap.size := by
  unfold Blk at h
  by_cases hg : g < w.heap.size
  · exact hg
  · rw [Array.getElem?_eq_none (by omega)] at h; exact absurd h (by simp)
theorem Blk.cell (h : Blk w g t cs) (i : Nat) : w.cell? ⟨g, i, none⟩ = cs[i]? := cell_of_row w g i cs t (0, 0) h
theorem Blk.free (h : Blk w g t cs) (i : Nat) : w.frozen? ⟨g, i, none⟩ = false := frozen_of_row w g i cs t h
theorem Blk.new (w : World) (t : TypeId) (cs : Array Value) : Blk (w.alloc (.cells cs t)) w.heap.size t cs := heap_alloc_new w _
theorem Blk.newAt (w : World) (t : TypeId) (cs : Array Value) (g : Nat) (h : g = w.heap.size) : Blk (w.alloc (.cells cs t)) g t cs := by subst h; exact Blk.new w t cs
theorem Blk.draw (h : Blk w g t cs) : Blk w.drew g t cs := h
theorem Blk.draws (h : Blk w g t cs) (n : Nat) : Blk (w.drewN n) g t cs := h
theorem Blk.more (h : Blk w g t cs) (o : Obj) : Blk (w.alloc o) g t cs := (Below.heap_alloc w o g h.lt).trans h
theorem Blk.put (h : Blk w g t cs) (i : Nat) (x : Value) (he : cs.setIfInBounds i x = ds) : Blk (w.setCell ⟨g, i, none⟩ x) g t ds := by
  subst he
  unfold Blk at h ⊢
  simp [World.setCell, Array.getElem?_modify, h]
theorem Blk.away (h : Blk w g t cs) {p : Addr} (hp : g ≠ p.block) (x : Value) : Blk (w.setCell p x) g t cs := (heap_setCell_other w p g x hp).trans h
theorem Blk.kept (h : Blk w g t cs) (hc : Chg S w v) (hn : ¬ S g) : Blk v g t cs := (hc.block g h.lt hn).trans h
theorem Blk.below {B : Nat} (h : Blk w g t cs) (hb : Below B w v) (hg : g < B) : Blk v g t cs := (hb.block g hg).trans h
theorem Blk.same (h : Blk w g t cs) (h' : Blk w g t ds) : cs = ds := by
  unfold Blk at h h'; rw [h] at h'; injection h' with h'; injection h'
theorem Blk.differ {g' : Nat} {t' : TypeId} {cs' : Array Value} (h : Blk w g t cs) (h' : Blk w g' t' cs') (hne : t ≠ t') : g ≠ g' := by
  rintro rfl
  unfold Blk at h h'; rw [h] at h'; injection h' with h'; injection h' with _ ht _; exact hne ht

theorem Chg.refl (S : Nat → Prop) (w : World) : Chg S w w := ⟨rfl, rfl, rfl, Nat.le_refl _, fun _ _ _ => rfl⟩
theorem Chg.draw (h : Chg S w v) : Chg S w v.drew := ⟨h.os, h.tape, h.output, h.size, h.block⟩
theorem Chg.draws (h : Chg S w v) (n : Nat) : Chg S w (v.drewN n) := ⟨h.os, h.tape, h.output, h.size, h.block⟩
theorem Chg.more (h : Chg S w v) (o : Obj) : Chg S w (v.alloc o) :=
  ⟨h.os, h.tape, h.output, by have := h.size; simp; omega, fun k hk hn => (Below.heap_alloc v o k (Nat.lt_of_lt_of_le hk h.size)).trans (h.block k hk hn)⟩
theorem Chg.put (h : Chg S w v) {p : Addr} (hp : S p.block ∨ w.heap.size ≤ p.block) (x : Value) : Chg S w (v.setCell p x) :=
  ⟨h.os, h.tape, h.output, by have := h.size; simpa [World.setCell] using this, fun k hk hn => (heap_setCell_other v p k x (by
    rintro rfl
    rcases hp with hp | hp
    · exact hn hp
    · omega)).trans (h.block k hk hn)⟩
theorem Chg.trans (h : Chg S w v) (h' : Chg R v u) (hs : ∀ k, k < w.heap.size → R k → S k) : Chg S w u :=
  ⟨h'.os.trans h.os, h'.tape.trans h.tape, h'.output.trans h.output, Nat.le_trans h.size h'.size, fun k hk hn =>
    (h'.block k (Nat.lt_of_lt_of_le hk h.size) (fun hr => hn (hs k hk hr))).trans (h.block k hk hn)⟩
theorem Chg.of_below (hb : Below w.heap.size w v) : Chg S w v := ⟨hb.os, hb.tape, hb.output, hb.size, fun k hk _ => hb.block k hk⟩
theorem Chg.below {B : Nat} (h : Chg S w v) (hB : B ≤ w.heap.size) (hn : ∀ k, k < B → ¬ S k) : Below B w v :=
  ⟨h.os, h.tape, h.output, h.size, fun k hk => h.block k (by omega) (hn k hk)⟩
theorem Chg.of_grown {row : Option Nat} (h : w.grownBy v row) : Chg (fun k => some k = row) w v := ⟨h.os, h.tape, h.output, h.size, fun k hk hn => h.block k hk hn⟩
theorem Chg.cell (h : Chg S w v) {p : Addr} (hp : p.block < w.heap.size) (hn : ¬ S p.block) : v.cell? p = w.cell? p := World.cell?_of_block (h.block _ hp hn)
theorem Chg.frozen (h : Chg S w v) {p : Addr} (hp : p.block < w.heap.size) (hn : ¬ S p.block) : v.frozen? p = w.frozen? p := World.frozen?_of_block (h.block _ hp hn)
theorem below_draws {B : Nat} (h : Below B w v) (n : Nat) : Below B w (v.drewN n) := ⟨h.os, h.tape, h.output, h.size, h.block⟩
theorem below_chg {B : Nat} (h : Below B w v) (h' : Chg S v u) (hB : B ≤ v.heap.size) (hn : ∀ k, k < B → ¬ S k) : Below B w u := h.trans (h'.below hB hn)
theorem Chg.mono (h : Chg S w v) (hs : ∀ k, k < w.heap.size → S k → R k) : Chg R w v := ⟨h.os, h.tape, h.output, h.size, fun k hk hn => h.block k hk (fun hr => hn (hs k hk hr))⟩
end
end Go.Proofs.Ythcfgchlaagfkaa
