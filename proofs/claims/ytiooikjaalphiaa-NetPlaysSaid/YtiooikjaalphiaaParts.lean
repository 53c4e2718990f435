/-
  What holds ahead of each call of NetPlays, and what each call makes of it. No condition.
-/
import Derived.Test.YtiooikjaalphiaaOps
namespace Go.Proofs.Ytiooikjaalphiaa
open Go.ChangeShapes Go.WideShapes Go.ChangeAt Go.RowKit
set_option linter.unusedVariables false
set_option linter.unusedSimpArgs false

structure Cs (w : World) (N V B : Nat) : Prop where
  n : w.heap.size ≤ N
  v : w.heap.size ≤ V
  vb : V < B
  nv : N ≠ V
/-- The net, the document's net in the block V, both with what lies below. -/
structure St (w : World) (N V B : Nat) (v : Value) (ps : List Pk) (lost : Int) (x : Value) (rl : List (List Int × Int)) (lost2 : Int) (wr : World) : Prop where
  net : NetIs wr N B v ps lost
  blk : Blk wr V 27 #[x, .int .i64 lost2]
  ref : RefIs wr B x rl
  bel : Below w.heap.size w wr
section
variable {w wr w' : World} {N V B : Nat} {v : Value} {ps : List Pk} {lost : Int} {x : Value} {rl : List (List Int × Int)} {lost2 : Int}
theorem St.later (h : St w N V B v ps lost x rl lost2 wr) (hb : Below wr.heap.size wr w') : St w N V B v ps lost x rl lost2 w' :=
  ⟨h.net.other hb, h.blk.below hb h.blk.lt, h.ref.later hb, h.bel.trans (hb.mono h.bel.size)⟩
theorem St.size (h : St w N V B v ps lost x rl lost2 wr) : B ≤ wr.heap.size := h.net.2.2.2.2
theorem St.store {y : Value} {ql : List (List Int × Int)} {l3 : Int} (h : St w N V B v ps lost x rl lost2 wr) (hc : Cs w N V B) (hr : RefIs wr B y ql) :
    St w N V B v ps lost y ql l3 ((wr.setCell ⟨V, 0, none⟩ y).setCell ⟨V, 1, none⟩ (.int .i64 l3)) := by
  have hvb := hc.vb
  have hn := h.net
  refine ⟨⟨Blk.away (Blk.away hn.1 hc.nv _) hc.nv _, row_away (row_away hn.2.1 _ _ hvb) _ _ hvb, fun p hp => ⟨Blk.away (Blk.away (hn.2.2.1 p hp).1 ?_ _) ?_ _, (hn.2.2.1 p hp).2⟩, hn.2.2.2.1, by simpa [World.setCell] using hn.2.2.2.2⟩, (h.blk.put 0 _ rfl).put 1 _ rfl, ref_away (ref_away hr _ _ hvb) _ _ hvb, (h.bel.setCell hc.v _).setCell hc.v _⟩
  · have := (hn.2.2.1 p hp).2; show p.g ≠ V; omega
  · have := (hn.2.2.1 p hp).2; show p.g ≠ V; omega
theorem St.call {v' : Value} {qs : List Pk} {l' : Int} (h : St w N V B v ps lost x rl lost2 wr) (hc : Cs w N V B) (hn : NetIs w' N B v' qs l') (hg : Chg (OwnN N v) wr w') : St w N V B v' qs l' x rl lost2 w' := by
  refine ⟨hn, h.blk.kept hg (OwnN.not h.net.1 h.net.2.1 h.blk (by decide) (by decide)), h.ref.chg hg (fun k cs hk hB => OwnN.not h.net.1 h.net.2.1 hk (by decide) (by decide)), below_chg h.bel hg h.bel.size (fun k hk e => ?_)⟩
  have h1 := hc.n
  have h2 := hc.v
  have h3 := hc.vb
  rcases e with e | e
  · omega
  · have := (h.net.2.1.lt k e).1; omega
theorem St.store_blk {y z : Value} {k : Nat} {t : TypeId} {cs : Array Value} (h : St w N V B v ps lost x rl lost2 wr) (hk : Blk wr k t cs) (ht : t ≠ 27) : Blk ((wr.setCell ⟨V, 0, none⟩ y).setCell ⟨V, 1, none⟩ z) k t cs :=
  Blk.away (Blk.away hk (hk.differ h.blk ht) _) (hk.differ h.blk ht) _
theorem St.keeps {k : Nat} {t : TypeId} {cs : Array Value} (h : St w N V B v ps lost x rl lost2 wr) (hg : Chg (OwnN N v) wr w') (hk : Blk wr k t cs) (h1 : t ≠ 53) (h2 : t ≠ 41) : Blk w' k t cs :=
  hk.kept hg (OwnN.not h.net.1 h.net.2.1 hk h1 h2)
end
/-- What the two nets are. -/
structure Fine (ps : List Pk) (rl : List (List Int × Int)) (lost : Int) (i : Nat) : Prop where
  say : sayL ps = rl
  few : rl.length ≤ 120
  lo : 0 ≤ lost
  hi : lost ≤ i
  each : ∀ x ∈ rl, x.1.length ≤ 140737488355328 ∧ -10000 ≤ x.2 ∧ x.2 ≤ 10000
section
variable {ps qs : List Pk} {rl : List (List Int × Int)} {lost : Int} {i : Nat}
theorem Fine.len (h : Fine ps rl lost i) : ps.length = rl.length := by rw [← h.say]; simp [sayL]
theorem Fine.pk (h : Fine ps rl lost i) : ∀ p ∈ ps, p.bs.length ≤ 140737488355328 ∧ -10000 ≤ p.born ∧ p.born ≤ 10000 := fun p hp =>
  h.each p.says (by rw [← h.say]; exact List.mem_map.2 ⟨p, hp, rfl⟩)
theorem Fine.bytes (h : Fine ps rl lost i) : ∀ p ∈ ps, p.bs.length ≤ 140737488355328 := fun p hp => (h.pk p hp).1
theorem Fine.borns (h : Fine ps rl lost i) : ∀ p ∈ ps, small p.born := fun p hp => by have := (h.pk p hp).2; unfold small; omega
theorem Fine.smalls (h : Fine ps rl lost i) : ∀ x ∈ rl, small x.2 := fun x hx => by have := (h.each x hx).2; unfold small; omega
theorem Fine.next (h : Fine ps rl lost i) : Fine ps rl lost (i + 1) := ⟨h.say, h.few, h.lo, by have := h.hi; omega, h.each⟩
theorem Fine.put (h : Fine ps rl lost i) {x : List Int × Int} (hq : sayL qs = putL rl x) (hx : x.1.length ≤ 140737488355328 ∧ -10000 ≤ x.2 ∧ x.2 ≤ 10000) : Fine qs (putL rl x) (putN rl.length lost) (i + 1) := by
  have h1 := h.few
  have h2 := h.lo
  have h3 := h.hi
  refine ⟨hq, ?_, ?_, ?_, ?_⟩
  · unfold putL; split
    · exact h1
    · simp; omega
  · unfold putN; split <;> omega
  · unfold putN; split <;> omega
  · unfold putL; split
    · exact h.each
    · intro y hy
      rcases List.mem_append.1 hy with hy | hy
      · exact h.each y hy
      · rw [List.mem_singleton.1 hy]; exact hx
theorem Fine.sub (h : Fine ps rl lost i) {ql : List (List Int × Int)} (hq : sayL qs = ql) (hs : ql.Sublist rl) : Fine qs ql lost (i + 1) :=
  ⟨hq, Nat.le_trans hs.length_le h.few, h.lo, by have := h.hi; omega, fun y hy => h.each y (hs.subset hy)⟩
theorem keep_young (now : Int) : ∀ ps : List Pk, sayL (keepL now ps) = young now (sayL ps) := by
  intro ps
  induction ps with
  | nil => rfl
  | cons p t ih =>
    unfold keepL young sayL at *
    cases h : old now p.born <;> simp [h, Pk.says, ih]
theorem age_net {N B : Nat} {v : Value} {ps : List Pk} {lost : Int} {w : World} (now : Int) (h : NetIs w N B v ps lost) (hn : ps.length ≤ 1000) (h1 : small now) (h2 : ∀ p ∈ ps, small p.born) :
    Calls Try.prog 15 #[.pointer (some ⟨N, 0, none⟩), .int .i64 now] w fun e w' => ∃ v', e = .returned (.int .i64 ((ps.length : Int) - (keepL now ps).length)) ∧ NetIs w' N B v' (keepL now ps) lost ∧ Chg (OwnN N v) w w' := by
  by_cases hp : 0 < ps.length
  · exact age_any now h hp hn h1 h2
  · have h0 : ps = [] := List.eq_nil_of_length_eq_zero (by omega)
    subst h0
    refine (age_zero now h).mono ?_
    rintro e w' ⟨rfl, h3, h4⟩
    exact ⟨v, rfl, h3, Chg.of_below h4⟩
/-- A place splits both nets alike. -/
theorem Fine.split (h : Fine ps rl lost i) (k : Nat) (hk : k < rl.length) : ∃ a p b c x d, ps = a ++ p :: b ∧ rl = c ++ x :: d ∧ a.length = k ∧ c.length = k ∧ sayL a = c ∧ p.says = x ∧ sayL b = d ∧ rl[k] = x := by
  have hp : k < ps.length := by rw [h.len]; exact hk
  refine ⟨ps.take k, ps[k], ps.drop (k + 1), rl.take k, rl[k], rl.drop (k + 1), ?_, ?_, ?_, ?_, ?_, ?_, ?_, rfl⟩
  · rw [List.getElem_cons_drop, List.take_append_drop]
  · rw [List.getElem_cons_drop, List.take_append_drop]
  · simp; omega
  · simp; omega
  · have := h.say; subst this; simp [sayL]
  · have := h.say; subst this; simp [sayL]
  · have := h.say; subst this; simp [sayL]
theorem conv_row (A : Option Addr) (n c : Nat) (bs : List Int) (W : World) (h : BRow W A n bs) (hA : A = none → n = 0) : (convert 28 9 (.slice A n c)).run Try.prog W = .ok (.string (strOfNums bs)) W := by
  by_cases hn : 0 < n
  · obtain ⟨g, o, rfl, hg, hc⟩ := h.2 hn
    exact run_convert_bytes_arg W 28 5 Try.underlying28 Try.underlying5 g o n c bs h.1 hc 9 Try.underlying9
  · obtain rfl : n = 0 := by omega
    have hb : bs = [] := List.eq_nil_of_length_eq_zero h.1
    subst hb
    cases A with
    | none => exact run_convert_bytes_nil (w := W) 28 5 Try.underlying28 Try.underlying5 0 c 9 Try.underlying9
    | some a =>
      obtain ⟨g, o, sp⟩ := a
      rw [run_convert_bytes_string W 28 9 5 _ 0 c Try.underlying28 Try.underlying5 Try.underlying9]
      simp [go_sem, Conv.bytesToString]
      rfl
end
end Go.Proofs.Ytiooikjaalphiaa
