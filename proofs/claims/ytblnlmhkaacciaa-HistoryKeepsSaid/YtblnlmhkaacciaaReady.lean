/-
  A range over an iterator that hands over values which lie in memory: what comes is ready at the round's start. No program in sight; no condition.
-/
import Derived.RangeFuncNested
import Derived.RangeFuncBound
import Derived.RangeFuncCalls
import Derived.RangeFuncLeaves
import Derived.Test.YtblnlmhkaacciaaMem
namespace Go.Proofs.Ytblnlmhkaacciaa
open Go.RowKit
set_option linter.unusedVariables false

/-- The iterator's word: each that comes is ready in the world in which its round begins; a round keeps what lies below X. -/
def SeqR {α : Type} (n : Nat) (P : Program) (gf : Nat) (lb : Array Value) (encs : α → Array Value) (Rd : α → World → Prop) (X : Nat) (S : List α → Prop) (N : Nat) (w : World) : Prop :=
  ∀ (l : Nat) (J : List α → World → Prop) (W : World), Below w.heap.size w W → AbidesFrom W.heap.size J →
    (∀ pre x W1, J pre W1 → Rd x W1 → pre.length < N → YieldAt Fence.wide (n - 1) P l (encs x) W1 fun e W' => e = .returned (.bool true) ∧ J (pre ++ [x]) W' ∧ Below X W1 W') →
    J [] W → CallsIn Fence.wide n P gf (#[.func (.yield l) #[] #[]] ++ lb) W fun e W' => (∃ v, e = .returned v) ∧ ∃ xs, S xs ∧ J xs W'

/-- What is no cells, from block B on, lies on beyond a turn of a block of cells or of a new one. -/
theorem stays {W W' : World} {row : Option Nat} {k : Nat} {o : Obj} (hk : W.heap[k]? = some o) (hg : W.grownBy W' row) (hr : ∀ r, row = some r → ∃ u : Obj, W.heap[r]? = some u ∧ u.isWalk = true) (ho : o.isWalk = false) : W'.heap[k]? = some o := by
  refine (hg.block k (Array.getElem?_eq_some_iff.1 hk).1 (fun e => ?_)).trans hk
  obtain ⟨u, hu, hw⟩ := hr k e.symm
  rw [hk] at hu
  injection hu with hu
  subst hu
  rw [ho] at hw
  cases hw

section
variable {α : Type} {n : Nat} {P : Program} {w : World}

/-- The two blocks that the loop lays: its record, and the round's calls put off. -/
def Book (L : Nat) (r : Loop) (W : World) : Prop := W.heap[L + 1]? = some (.loop r) ∧ W.heap[L]? = some (.deferred (some []))
theorem Book.keep {L : Nat} {r : Loop} {W W' : World} (h : Book L r W) (hk : KeepsFrom L W W') : Book L r W' := ⟨hk.same _ _ (by omega) h.1 rfl, hk.same _ _ (Nat.le_refl _) h.2 rfl⟩
theorem Book.turn {L : Nat} {r : Loop} {W : World} (h : Book L r W) (r' : Loop) : Book L r' (W.putObj (L + 1) (.loop r')) :=
  ⟨World.putObj_heap_same (Array.getElem?_eq_some_iff.1 h.1).1, (World.putObj_heap_other (by omega)).trans h.2⟩
theorem Book.below {L X : Nat} {r : Loop} {W : World} (h : Book L r W) (hX : X ≤ L) (r' : Loop) : Below X W (W.putObj (L + 1) (.loop r')) :=
  (Below.refl X W).grown (grownBy_putObj' W _ _) (by have := (Array.getElem?_eq_some_iff.1 h.1).1; omega) (fun k e => by cases e; omega)

theorem range_ready {g : Operand} {ps : Array Tmp} {assign body : Code} {Q : Exit → Act → World → Prop} {a : Act}
    (h1 : 1 ≤ n) {gf : Nat} {lb : Array Value} (hg : a.eval g = .func (.func gf) #[] lb) (eg : ∀ args w, (callFunc gf args).run P w = .ok (.enter gf args) w)
    {encs : α → Array Value} {Rd : α → World → Prop} {X : Nat} (hX : X ≤ w.heap.size) {S : List α → Prop} {N : Nat} (hseq : SeqR (n - 1) P gf lb encs Rd X S N w) (hps : ∀ x, (encs x).size = ps.size)
    (I : List α → World → Prop) (hI : OwnFrom w.heap.size I) (h0 : I [] w) (Ax : α → Act → World → Prop) (hAx : ∀ x a', OwnFrom w.heap.size (fun (_ : Unit) W => Ax x a' W))
    (hassign : ∀ (l : Nat) (pre : List α) (x : α) (W : World) (K : Act → World → Prop), I pre W → Rd x W → (∀ a' W', KeepsFrom w.heap.size W W' → Below X W W' → I pre W' → Ax x a' W' → K a' W') →
      assign.wpIn (Fence.wide.inRound l) (n - 1 - 1) P (Exit.then K (fun _ _ _ => False)) { tmps := (ps.zip (encs x)).foldl (fun t (p, v) => t.setIfInBounds p v) a.tmps, defers := [] } W)
    (hbody : ∀ (l : Nat) (pre : List α) (x : α) (a' : Act) (W : World), I pre W → Ax x a' W → pre.length < N → body.wpIn (Fence.wide.inRound l) (n - 1 - 1) P (ownPostG w.heap.size (Below X) I (fun _ _ _ => False) (pre ++ [x]) W) a' W)
    (hdone : ∀ (D : Nat) (xs : List α) (W : World), w.heap.size ≤ D → S xs → I xs W → W.heap[D]? = some (.deferred (some [])) → Q .normal { a with defers := { target := .collected D, args := #[] } :: a.defers } W) :
    (Code.rangeFunc g ps assign body).wpIn Fence.wide n P Q a w := by
  refine wpIn_rangeFunc (fun fn hfn => ?_)
  obtain ⟨L, hL⟩ : ∃ L, w.heap.size = L := ⟨_, rfl⟩
  obtain ⟨rc, hrc⟩ : ∃ rc : LoopState → Loop, rc = fun st => { state := st, pending := none, fn, tmps := a.tmps, params := ps, assign, body, defers := L } := ⟨_, rfl⟩
  obtain ⟨W1, hW1⟩ : ∃ W1, (w.alloc (.deferred (some []))).alloc (.loop (rc .ready)) = W1 := ⟨_, rfl⟩
  have hb1 : Below w.heap.size w W1 := by rw [← hW1]; exact ((Below.refl _ w).alloc (Nat.le_refl _) _).alloc (by simp) _
  have hB1 : Book L (rc .ready) W1 := by
    rw [← hW1, ← hL]
    refine ⟨?_, (Below.heap_alloc _ _ _ (by simp)).trans (World.alloc_heap_new w _)⟩
    have := World.alloc_heap_new (w.alloc (.deferred (some []))) (.loop (rc .ready))
    rwa [World.size_alloc] at this
  have hI1 : I [] W1 := by rw [← hW1]; exact hI.alloc _ (hI.alloc _ h0)
  rw [hL] at hI hAx hX hassign hbody hdone
  have hLW : L + 1 < W1.heap.size := (Array.getElem?_eq_some_iff.1 hB1.1).1
  refine ⟨L + 1, [{ target := .collected L, args := #[] }], W1, { target := .fn (.func gf) lb, args := #[.func (.yield (L + 1)) #[] #[]] }, W1, gf, #[.func (.yield (L + 1)) #[] #[]] ++ lb, W1, ?_, ?_, fun _ _ => trivial, ?_, fun _ => h1, ?_⟩
  · rw [← hW1, hrc, ← hL]; exact run_enterLoop_outer _ _ _ _ _
  · simp only [resolve, hg]
    simp [go_sem]
  · simp [invoke, go_sem, eg]
  refine (hseq (L + 1) (fun pre W => I pre W ∧ Book L (rc .ready) W) W1 hb1 ?_ ?_ ⟨hI1, hB1⟩).mono ?_
  · rintro s A B row ⟨hs1, hs2⟩ hgr hr
    have hw : ∀ r, row = some r → ∃ u : Obj, A.heap[r]? = some u ∧ u.isWalk = true := fun r e => (hr r e).2
    refine ⟨hI s A B row hs1 hgr (fun r e => ?_), stays hs2.1 hgr hw rfl, stays hs2.2 hgr hw rfl⟩
    obtain ⟨hle, o, ho, hwk⟩ := hr r e
    exact ⟨by omega, o, ho, Obj.not_cells_of_walk hwk⟩
  · rintro pre x W ⟨hi, hbk⟩ hrd hlen
    have hy := run_yield (P := P) (args := encs x) hbk.1 (by rw [hrc]; exact hps x)
    rw [hrc] at hy
    refine ⟨fn, _, assign, body, hy, roundIn_of_wpIn hfn (hassign _ pre x W _ hi hrd ?_)⟩
    intro a' Wa hkf hka hia hax
    have hba := hbk.keep hkf
    have ht := hba.turn { rc .ready with state := .busy }
    have hgt := grownBy_putObj' Wa (L + 1) (.loop { rc .ready with state := .busy })
    have hlo : ∀ r, some (L + 1) = some r → L ≤ r ∧ ∃ o : Obj, Wa.heap[r]? = some o ∧ o.isCells = false := fun r e => by cases e; exact ⟨by omega, _, hba.1, rfl⟩
    refine ⟨_, run_beginRound hba.1 (by rw [hrc]), wpIn_mono (hbody _ pre x a' _ (hI pre _ _ _ hia hgt hlo) (hAx x a' () _ _ _ hax hgt hlo) hlen) ?_⟩
    rintro e a3 W3 hp
    cases e with
    | normal =>
      obtain ⟨hk3, hx3, hi3⟩ := hp
      have hb3 := ht.keep hk3
      have hend := run_endRound (P := P) none hb3.1
      have hrr : ({ ({ rc .ready with state := .busy } : Loop) with state := if (none : Option Code).isNone then .ready else .done, pending := none } : Loop) = rc .ready := by rw [hrc]; rfl
      rw [hrr] at hend
      have hb4 := hb3.turn (rc .ready)
      refine ⟨_, _, hend, rfl, ⟨hI _ _ _ _ hi3 (grownBy_putObj' W3 (L + 1) _) (fun r e => by cases e; exact ⟨by omega, _, hb3.1, rfl⟩), hb4⟩, ?_⟩
      exact ((hka.trans (hba.below hX _)).trans hx3).trans (hb3.below hX _)
    | ret => exact hp.2.elim
    | exit id => exact hp.2.elim
    | goto t => exact hp.2.elim
    | panic ch => exact hp.elim
    | outgrown => exact hp.elim
  · rintro e W2 ⟨⟨v, rfl⟩, xs, hS, hi, hbk⟩
    have hend := run_endLoop (P := P) hbk.1 (by rw [hrc]; simp)
    have hpn : (rc .ready).pending = none := by rw [hrc]
    rw [hpn] at hend
    exact ⟨none, _, hend, hdone _ xs _ (Nat.le_refl _) hS (hI xs _ _ _ hi (grownBy_putObj' W2 (L + 1) _) (fun r e => by cases e; exact ⟨by omega, _, hbk.1, rfl⟩)) ((World.putObj_heap_other (by omega)).trans hbk.2)⟩
end
end Go.Proofs.Ytblnlmhkaacciaa
