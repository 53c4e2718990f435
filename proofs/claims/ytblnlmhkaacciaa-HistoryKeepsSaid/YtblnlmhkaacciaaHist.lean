/-
  Words for versions and histories; the walks of slices.Clone, New, is, full, needed. No condition beyond a length that lets a table be copied.
-/
import Derived.Test.YtblnlmhkaacciaaTwo
import Derived.Lib.SliceRun
import Derived.Deep.AppendLies
import Derived.Deep.RegionLaw
namespace Go.Proofs.Ytblnlmhkaacciaa
open Go.ChangeShapes Go.WideShapes Go.ChangeAt Go.RowKit
set_option linter.unusedVariables false
set_option linter.unusedSimpArgs false

/-- A version: its number, from when, until when, its table. -/
structure Ver where
  num : Int
  frm : Int
  unt : Int
  A : Option Addr
  c : Nat
  tab : List Int
def Ver.sl (p : Ver) : Value := .slice p.A p.tab.length p.c
def Ver.val (p : Ver) : List Value := [.int .i64 p.num, .int .i64 p.frm, .int .i64 p.unt, p.sl]
def flatV (vs : List Ver) : List Value := vs.flatMap Ver.val
def intsV (l : List Int) : List Value := l.map (Value.int .i64)
theorem flatV_len (vs : List Ver) : (flatV vs).length = vs.length * 4 := by
  induction vs with
  | nil => rfl
  | cons p t ih => simp [flatV, Ver.val] at *; omega
theorem flatV_append (a b : List Ver) : flatV (a ++ b) = flatV a ++ flatV b := by simp [flatV]
theorem flatV_at : ∀ (vs : List Ver) (i : Nat) (h : i < vs.length), (flatV vs)[i * 4]? = some (.int .i64 vs[i].num) ∧ (flatV vs)[i * 4 + 1]? = some (.int .i64 vs[i].frm) ∧ (flatV vs)[i * 4 + 2]? = some (.int .i64 vs[i].unt) ∧ (flatV vs)[i * 4 + 3]? = some vs[i].sl
  | p :: t, 0, _ => ⟨rfl, rfl, rfl, rfl⟩
  | p :: t, i + 1, h => by
    have r := flatV_at t i (by simpa using h)
    have e : flatV (p :: t) = .int .i64 p.num :: .int .i64 p.frm :: .int .i64 p.unt :: p.sl :: flatV t := rfl
    rw [e, show (i + 1) * 4 = i * 4 + 1 + 1 + 1 + 1 by omega, show i * 4 + 1 + 1 + 1 + 1 + 1 = (i * 4 + 1) + 1 + 1 + 1 + 1 by omega, show i * 4 + 1 + 1 + 1 + 1 + 2 = (i * 4 + 2) + 1 + 1 + 1 + 1 by omega, show i * 4 + 1 + 1 + 1 + 1 + 3 = (i * 4 + 3) + 1 + 1 + 1 + 1 by omega]
    exact r
/-- A table in a row of its own. -/
def Tab (w : World) (B : Nat) (v : Value) (l : List Int) : Prop := w.ownsRow B 3 1 v l.length (intsV l)
def Ver.lies (w : World) (B : Nat) (p : Ver) : Prop := Tab w B p.sl p.tab ∧ p.tab.length * 8 ≤ 140737488355328
theorem own_later {w v : World} {B e s n : Nat} {x : Value} {l : List Value} (h : w.ownsRow B e s x n l) (hb : Below w.heap.size w v) : v.ownsRow B e s x n l :=
  ⟨h.1, h.2.imp id fun ⟨g, cap, cur, h1, h2, h3, h4⟩ => ⟨g, cap, cur, h1, h2, (hb.block g (lt_of_block h3)).trans h3, h4⟩⟩
theorem own_base {w : World} {B B' e s n : Nat} {x : Value} {l : List Value} (h : w.ownsRow B e s x n l) (hb : B' ≤ B) : w.ownsRow B' e s x n l :=
  ⟨h.1, h.2.imp id fun ⟨g, cap, cur, h1, h2, h3⟩ => ⟨g, cap, cur, h1, Nat.le_trans hb h2, h3⟩⟩
theorem own_blk {w : World} {B e s n : Nat} {x : Value} {l : List Value} (h : w.ownsRow B e s x n l) {k : Nat} (hk : x.ownBlock = some k) : ∃ cs, Blk w k e cs := by
  rcases h.2 with ⟨rfl, _⟩ | ⟨g, cap, cur, rfl, _, hh, _⟩
  · simp [Value.ownBlock] at hk
  · obtain rfl : g = k := by simpa [Value.ownBlock] using hk
    exact ⟨cur, hh⟩
theorem own_away {W : World} {B e s n : Nat} {v : Value} {xs : List Value} (h : W.ownsRow B e s v n xs) (p : Addr) (x : Value) (hp : v.ownBlock ≠ some p.block) : (W.setCell p x).ownsRow B e s v n xs :=
  ⟨h.1, h.2.imp id fun ⟨g, cap, cur, h1, h2, h3, h4⟩ => ⟨g, cap, cur, h1, h2, Blk.away h3 (fun e => hp (by rw [h1, ← e]; rfl)) x, h4⟩⟩
theorem Tab.row {w : World} {B : Nat} {A : Option Addr} {c : Nat} {l : List Int} (h : Tab w B (.slice A l.length c) l) : NRow w A l := by
  intro hp
  rcases h.2 with ⟨hv, h0⟩ | ⟨g, cap, cur, hv, h1, h2, h3, h4, h5, h6⟩
  · omega
  · injection hv with hA e1 e2
    subst hA e2
    refine ⟨g, 0, rfl, lt_of_block h2, fun i hi => ?_⟩
    rw [Nat.zero_add, World.ownsRow.cellAt h i (by omega)]
    simp [intsV, hi]
theorem Ver.lies.later {w v : World} {B : Nat} {p : Ver} (h : p.lies w B) (hb : Below w.heap.size w v) : p.lies v B := ⟨own_later h.1 hb, h.2⟩
/-- The history at H: its row is v, what it holds, the last number. -/
structure HistIs (w : World) (H B : Nat) (v : Value) (vs : List Ver) (last : Int) : Prop where
  blk : Blk w H 51 #[.bool true, v, .int .i64 last]
  row : w.ownsRow B 32 4 v vs.length (flatV vs)
  tabs : ∀ p ∈ vs, p.lies w B
  lt : H < B
  le : B ≤ w.heap.size
def NoHist (w : World) (v : Value) : Prop := v = .pointer none ∨ ∃ N, v = .pointer (some ⟨N, 0, none⟩) ∧ Blk w N 51 #[.bool false, .slice none 0 0, .int .i64 0]
theorem NoHist.later {w v : World} {x : Value} (h : NoHist w x) (hb : Below w.heap.size w v) : NoHist v x := h.imp id (fun ⟨N, e, hk⟩ => ⟨N, e, hk.below hb hk.lt⟩)
theorem HistIs.later {w v : World} {H B : Nat} {u : Value} {vs : List Ver} {l : Int} (h : HistIs w H B u vs l) (hb : Below w.heap.size w v) : HistIs v H B u vs l :=
  ⟨h.blk.below hb h.blk.lt, own_later h.row hb, fun p hp => (h.tabs p hp).later hb, h.lt, Nat.le_trans h.le hb.size⟩
theorem HistIs.form {w : World} {H B : Nat} {v : Value} {vs : List Ver} {l : Int} (h : HistIs w H B v vs l) : ∃ A c, v = .slice A vs.length c := by
  rcases h.row.2 with ⟨rfl, h0⟩ | ⟨g, cap, cur, rfl, _⟩
  · exact ⟨none, 0, by rw [h0]⟩
  · exact ⟨_, _, rfl⟩
theorem HistIs.some_ {w : World} {H B : Nat} {v : Value} {vs : List Ver} {l : Int} (h : HistIs w H B v vs l) (hp : 0 < vs.length) : ∃ g c, v = .slice (some ⟨g, 0, none⟩) vs.length c ∧ vs.length ≤ c ∧ B ≤ g ∧ g < w.heap.size ∧ c ≤ 9223372036854775807 ∧ ∀ j u, (flatV vs)[j]? = some u → w.cell? ⟨g, j, none⟩ = some u := by
  rcases h.row.2 with ⟨_, h0⟩ | ⟨g, cap, cur, rfl, hg, hh, hcap, hmax, hsz, htk⟩
  · omega
  · refine ⟨g, cap, rfl, hcap, hg, lt_of_block hh, by unfold maxLen at hmax; exact hmax, fun j u hj => ?_⟩
    have hl : j < vs.length * 4 := by
      have := (List.getElem?_eq_some_iff.1 hj).1
      rwa [flatV_len] at this
    rw [World.ownsRow.cellAt h.row j hl]
    exact hj
theorem info3 : (Try.prog.info? 3).map (fun i => (i.zero, i.size, i.bytes)) = some (some (.int .i64 0), 1, 8) := by kernel_rfl
theorem intsV_one {l : List Int} : ∀ u ∈ intsV l, u.oneCell' = true := by
  intro u hu
  simp only [intsV, List.mem_map] at hu
  obtain ⟨z, _, rfl⟩ := hu
  rfl
theorem NRow.news {w : World} {A : Option Addr} {l : List Int} (h : NRow w A l) (a : Addr) (ha : 0 < l.length → A = some a) : ∀ j u, (intsV l)[j]? = some u → w.cell? (a.add j) = some u := by
  intro j u hj
  have hjl : j < l.length := by
    have := (List.getElem?_eq_some_iff.1 hj).1
    simpa [intsV] using this
  obtain ⟨g, o, e, hg, hc⟩ := h (by omega)
  have := ha (by omega)
  rw [e] at this
  injection this with this
  subst this
  rw [Addr.add_mid, hc j hjl, ← hj]
  simp [intsV, hjl]
set_option maxHeartbeats 1600000 in
theorem clone_any (A : Option Addr) (n c : Nat) (l : List Int) (w : World) (h : NRow w A l) (hn : l.length = n) (hm : n * 8 ≤ 140737488355328) :
    Calls Try.prog 20 #[.slice A n c] w fun e w' => ∃ A' c', e = .returned (.slice A' n c') ∧ Tab w' w.heap.size (.slice A' n c') l ∧ Below w.heap.size w w' := by
  obtain ⟨i0, hi, hz0, hz1, hz2⟩ := info_parts info3
  have HZ := Lib.hid (And.intro hi (And.intro hz0 (And.intro hz1 hz2)))
  have HH := Lib.hid h
  have HL := Lib.hid hn
  clear h hn hi hz0 hz1 hz2
  cases A with
  | none =>
    have h0 : l = [] := by
      rcases Nat.eq_zero_or_pos l.length with h | h
      · exact List.eq_nil_of_length_eq_zero h
      · obtain ⟨g, o, e, _⟩ := HH.out h
        cases e
    subst h0
    obtain rfl : n = 0 := by have := HL.out; simpa using this.symm
    have hq : (binOp .eql 26 (.slice none 0 c) (.slice none 0 0)).run Try.prog w = .ok (.bool true) w := Lib.run_eql_slice_nil w 26 3 none 0 c 0 0 Try.underlying26
    go_enter Try.func20, Try.ntmps20
    go_wp2_with fail
    go_ret
    exact ⟨none, 0, rfl, World.ownsRow_nil _ _ _ _, Below.refl _ _⟩
  | some a =>
    have O0 : Hid ((w.alloc (.cells #[] 3)).ownsRow w.heap.size 3 1 (.slice (some ⟨w.heap.size, 0, none⟩) 0 0) 0 []) := ⟨rfl, Or.inr ⟨w.heap.size, 0, #[], rfl, Nat.le_refl _, heap_alloc_new w _, Nat.le_refl _, by unfold maxLen; omega, rfl, rfl⟩⟩
    have B0 : Hid (Below w.heap.size w (w.alloc (.cells #[] 3))) := (Below.refl _ _).alloc (Nat.le_refl _) _
    have HN : Hid (∀ j u, (intsV l)[j]? = some u → (w.alloc (.cells #[] 3)).cell? (a.add j) = some u) := (HH.out.later B0.out).news a (fun h => by
      obtain ⟨g, o, e, _⟩ := HH.out h
      rw [e])
    have hlen : Hid ((intsV l).length = n * 1) := by unfold Hid; rw [intsV, List.length_map, HL.out]; omega
    have h63 : Hid (0 + n ≤ maxLen) := by unfold Hid maxLen; omega
    have h47 : Hid ((0 + n) * 8 ≤ 140737488355328) := by unfold Hid; omega
    have hsz : Hid (w.heap.size ≤ (w.alloc (.cells #[] 3)).heap.size) := by unfold Hid; simp
    have hq : (binOp .eql 26 (.slice (some a) n c) (.slice none 0 0)).run Try.prog w = .ok (.bool false) w := Lib.run_eql_slice_nil w 26 3 (some a) n c 0 0 Try.underlying26
    go_enter Try.func20, Try.ntmps20
    go_wp2_with (first
      | (at_builtin; refine wpList_append_own _ rfl _ _ 26 rfl w.heap.size 3 i0 _ 1 8 Try.underlying26 HZ.out.1 HZ.out.2.1 HZ.out.2.2.1 HZ.out.2.2.2 rfl (Nat.succ_pos 0) _ 0 [] rfl O0.out a n c (intsV l) rfl hlen.out HN.out intsV_one h63.out h47.out hsz.out ?_; intro v' w1 hown hgrow hnil; have G1 := Lib.hid hown; have G2 := Lib.hid hgrow; have G3 := Lib.hid hnil; clear hown hgrow hnil)
      | fail)
    go_ret
    have g1 := G1.out
    rw [Nat.zero_add] at g1
    have hB := B0.out.grown G2.out hsz.out (fun k hk => (O0.out.lt k hk).1)
    have h3 := G3.out
    rcases g1.2 with ⟨rfl, h0⟩ | ⟨g, cap, cur, rfl, _⟩
    · exact absurd (h3.1 rfl).1 (fun e => by cases e)
    · refine ⟨_, _, rfl, ?_, hB⟩
      unfold Tab
      rw [HL.out]
      exact g1
theorem is_nil (w : World) : Calls Try.prog 25 #[.pointer none] w fun e w' => e = .returned (.bool false) ∧ w = w' := by
  go_enter Try.func25, Try.ntmps25
  go_wp2
  go_ret
  exact ⟨rfl, rfl⟩
theorem is_blk (N : Nat) (m : Bool) (v : Value) (l : Int) (w : World) (h : Blk w N 51 #[.bool m, v, .int .i64 l]) : Calls Try.prog 25 #[.pointer (some ⟨N, 0, none⟩)] w fun e w' => e = .returned (.bool m) ∧ w = w' := by
  have c0 : w.cell? ⟨N, 0, none⟩ = some (.bool m) := h.cell 0
  clear h
  go_enter Try.func25, Try.ntmps25
  go_wp2
  go_ret
  exact ⟨rfl, rfl⟩
theorem is_none (v : Value) (w : World) (h : NoHist w v) : Calls Try.prog 25 #[v] w fun e w' => e = .returned (.bool false) ∧ w = w' := by
  rcases h with rfl | ⟨N, rfl, h⟩
  · exact is_nil w
  · exact is_blk N false _ _ w h
theorem new_any (w : World) : Calls Try.prog 6 #[] w fun e w' => ∃ N, e = .returned (.pointer (some ⟨N, 0, none⟩)) ∧ HistIs w' N w'.heap.size (.slice none 0 0) [] 0 ∧ w.heap.size ≤ N ∧ Below w.heap.size w w' := by
  have HB : Hid (Blk (w.alloc (.cells #[.bool true, .slice none 0 0, .int .i64 0] 51)) w.heap.size 51 #[.bool true, .slice none 0 0, .int .i64 0]) := Blk.new _ _ _
  go_enter Try.func6, Try.ntmps6
  go_wp2
  go_ret
  exact ⟨_, rfl, ⟨HB.out, World.ownsRow_nil _ _ _ _, by simp, by simp, Nat.le_refl _⟩, Nat.le_refl _, (Below.refl _ _).alloc (Nat.le_refl _) _⟩
section
variable {H B : Nat} {v : Value} {vs : List Ver} {last : Int} {w : World}
theorem full_any (h : HistIs w H B v vs last) : Calls Try.prog 18 #[.pointer (some ⟨H, 0, none⟩)] w fun e w' => e = .returned (.bool (decide (4 ≤ vs.length))) ∧ w = w' := by
  obtain ⟨A, c, rfl⟩ := h.form
  have c1 : w.cell? ⟨H, 1, none⟩ = some (.slice A vs.length c) := h.blk.cell 1
  clear h
  go_enter Try.func18, Try.ntmps18
  go_wp2
  go_ret
  exact ⟨ret_bool (by simp; omega), rfl⟩
def headUnt (vs : List Ver) : Int := (vs.head?.map Ver.unt).getD 0
def lastFrm (vs : List Ver) : Int := (vs.getLast?.map Ver.frm).getD 0
theorem needed_any (now : Int) (h : HistIs w H B v vs last) (hp : 0 < vs.length) : Calls Try.prog 26 #[.pointer (some ⟨H, 0, none⟩), .int .i64 now] w fun e w' => e = .returned (.bool (decide (wrap64 (now - headUnt vs) < 16))) ∧ w = w' := by
  obtain ⟨g, c, rfl, hc, hg, hg2, hc2, hcell⟩ := h.some_ hp
  have c1 : w.cell? ⟨H, 1, none⟩ = some (.slice (some ⟨g, 0, none⟩) vs.length c) := h.blk.cell 1
  have c2 : w.cell? ⟨g, 2, none⟩ = some (.int .i64 (headUnt vs)) := by
    refine hcell 2 _ ?_
    have := (flatV_at vs 0 hp).2.2.1
    rw [Nat.zero_mul, Nat.zero_add] at this
    rw [this]
    unfold headUnt
    rw [List.head?_eq_getElem?, List.getElem?_eq_getElem hp]; rfl
  clear h hcell
  go_enter Try.func26, Try.ntmps26
  go_wp2
  go_ret
  exact ⟨ret_bool rfl, rfl⟩
end
end Go.Proofs.Ytblnlmhkaacciaa
