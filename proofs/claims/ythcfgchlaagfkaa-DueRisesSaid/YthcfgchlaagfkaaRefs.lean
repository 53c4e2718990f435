/-
  The document's Add: its walk. No condition beyond a row of a machine's size.
-/
import Derived.Test.YthcfgchlaagfkaaAlls
import Derived.Laws.AppendOwnNone
namespace Go.Proofs.Ythcfgchlaagfkaa
open Go.ChangeShapes Go.WideShapes Go.ChangeAt Go.RowKit
set_option linter.unusedVariables false
set_option linter.unusedSimpArgs false

/-- The document's list, wherever it lies. -/
def RefIs (w : World) (A : Option Addr) (n c : Nat) (r : List (Int × Int)) : Prop :=
  r.length = n ∧ n ≤ c ∧ c ≤ 9223372036854775807 ∧ ((A = none ∧ c = 0) ∨ ∃ g o, A = some ⟨g, o, none⟩ ∧ (∀ j u, (flat2 r)[j]? = some u → w.cell? ⟨g, o + j, none⟩ = some u) ∧ ∃ cs, Blk w g 32 cs)
theorem RefIs.nil (w : World) : RefIs w none 0 0 [] := ⟨rfl, Nat.le_refl _, by omega, Or.inl ⟨rfl, rfl⟩⟩
theorem RefIs.kept {w w' : World} {A : Option Addr} {n c : Nat} {r : List (Int × Int)} {S : Nat → Prop} (h : RefIs w A n c r) (hc : Chg S w w') (hS : ∀ g cs, Blk w g 32 cs → ¬ S g) : RefIs w' A n c r := by
  refine ⟨h.1, h.2.1, h.2.2.1, h.2.2.2.imp id ?_⟩
  rintro ⟨g, o, e, h1, cs, hb⟩
  exact ⟨g, o, e, fun j u hj => (hc.cell (p := ⟨g, o + j, none⟩) hb.lt (hS g cs hb)).trans (h1 j u hj), cs, hb.kept hc (hS g cs hb)⟩
theorem RefIs.later {w w' : World} {A : Option Addr} {n c : Nat} {r : List (Int × Int)} (h : RefIs w A n c r) (hb : Below w.heap.size w w') : RefIs w' A n c r :=
  h.kept (Chg.of_below (S := fun _ => False) hb) (fun _ _ _ => id)
theorem RefIs.of_own {w : World} {B n c : Nat} {A : Option Addr} {r : List (Int × Int)} (h : w.ownsRow B 32 2 (.slice A n c) n (flat2 r)) (hl : r.length = n) : RefIs w A n c r := by
  rcases h.2 with ⟨e, h0⟩ | ⟨g, cap, cur, e, h1, h2, h3, h4, h5⟩
  · injection e with e1 e2 e3
    subst e1 e2 e3
    exact ⟨hl, by omega, by omega, Or.inl ⟨rfl, rfl⟩⟩
  · injection e with e1 e2 e3
    subst e1 e3
    have hall := fun j => World.ownsRow.cellAt h j
    refine ⟨hl, h3, by unfold maxLen at h4; exact h4, Or.inr ⟨g, 0, rfl, fun j u hj => ?_, cur, h2⟩⟩
    have hj2 : j < n * 2 := by
      have := (List.getElem?_eq_some_iff.1 hj).1
      rw [flat2_len, hl] at this
      exact this
    rw [Nat.zero_add]
    exact (hall j hj2).trans hj
theorem RefIs.at_ {w : World} {g o n c : Nat} {r : List (Int × Int)} (h : RefIs w (some ⟨g, o, none⟩) n c r) (i : Nat) (hi : i < r.length) : w.cell? ⟨g, o + i * 2, none⟩ = some (.int .i64 (r[i]).1) ∧ w.cell? ⟨g, o + i * 2 + 1, none⟩ = some (.int .i64 (r[i]).2) := by
  rcases h.2.2.2 with ⟨e, _⟩ | ⟨g', o', e, h1, _⟩
  · cases e
  · injection e with e
    injection e with e1 e2
    subst e1 e2
    obtain ⟨f0, f1⟩ := flat2_at r i hi
    exact ⟨h1 _ _ f0, h1 _ _ f1⟩
theorem RefIs.shape {w : World} {A : Option Addr} {n c : Nat} {r : List (Int × Int)} (h : RefIs w A n c r) : (A = none ∧ c = 0 ∧ n = 0 ∧ r = []) ∨ ∃ g o, A = some ⟨g, o, none⟩ := by
  rcases h.2.2.2 with ⟨e, h0⟩ | ⟨g', o', e, h1, _⟩
  · have hn := h.2.1
    exact Or.inl ⟨e, h0, by omega, List.eq_nil_of_length_eq_zero (by have := h.1; omega)⟩
  · exact Or.inr ⟨_, _, e⟩
theorem RefIs.tail {w : World} {g o n c : Nat} {r : List (Int × Int)} {x : Int × Int} (h : RefIs w (some ⟨g, o, none⟩) (n + 1) c (x :: r)) : RefIs w (some ⟨g, o + 2, none⟩) n (c - 1) r := by
  obtain ⟨h1, h2, h3, h4⟩ := h
  rcases h4 with ⟨e, _⟩ | ⟨g', o', e, h5, h6⟩
  · cases e
  · injection e with e
    injection e with e1 e2
    subst e1 e2
    refine ⟨by simpa using h1, by omega, by omega, Or.inr ⟨_, _, rfl, fun j u hj => ?_, h6⟩⟩
    have := h5 (j + 2) u (by simpa [flat2] using hj)
    rwa [show o + 2 + j = o + (j + 2) by omega]
theorem RefIs.reads {w : World} {g o n c : Nat} {r : List (Int × Int)} (h : RefIs w (some ⟨g, o, none⟩) n c r) : ∀ j u, (flat2 r)[j]? = some u → w.cell? ⟨g, o + j, none⟩ = some u := by
  rcases h.2.2.2 with ⟨e, _⟩ | ⟨g', o', e, h1, _⟩
  · cases e
  · injection e with e
    injection e with e1 e2
    subst e1 e2
    exact h1
def aheadP (a id : Int) (p : Int × Int) : Prop := p.1 < a ∨ (p.1 = a ∧ p.2 ≤ id)
theorem flat2_one {l : List (Int × Int)} : ∀ u ∈ flat2 l, u.oneCell' = true := by
  intro u hu
  simp only [flat2, List.mem_flatMap] at hu
  obtain ⟨p, _, hu⟩ := hu
  simp at hu
  rcases hu with rfl | rfl <;> rfl
/-- Where one more is put. -/
def PutAt (a id : Int) (r : List (Int × Int)) (i : Nat) : Prop := (∀ p ∈ r.take i, aheadP a id p) ∧ ∀ p, r[i]? = some p → ¬ aheadP a id p
set_option maxRecDepth 100000 in
set_option maxHeartbeats 3200000 in
theorem refAdd_some (g o n c : Nat) (r : List (Int × Int)) (a id : Int) (w : World) (h : RefIs w (some ⟨g, o, none⟩) n c r) (hm : n ≤ 1000) :
    Calls Try.prog 8 #[.slice (some ⟨g, o, none⟩) n c, .int .i64 a, .int .i64 id] w fun e w' => ∃ A' c' i, i ≤ n ∧ PutAt a id r i ∧ e = .returned (.slice A' (n + 1) c') ∧ RefIs w' A' (n + 1) c' (r.take i ++ [(a, id)] ++ r.drop i) ∧ Below w.heap.size w w' := by
  obtain ⟨i0, hi, hz0, hz1, hz2⟩ := info_parts info32
  have HZ := Lib.hid (And.intro hi (And.intro hz0 (And.intro hz1 hz2)))
  have HH := Lib.hid h
  have hn := h.1
  have HN := Lib.hid hn
  have hnc := h.2.1
  have hcm := h.2.2.1
  clear h hn hi hz0 hz1 hz2
  go_enter Try.func8, Try.ntmps8
  go_wp2_with fail
  go_loopg [7] (n + 1) (fun gk s7 wr => ∃ i : Nat, s7 = .int .i64 i ∧ gk + i = n + 1 ∧ i ≤ n ∧ wr = w ∧ Hid (∀ p ∈ r.take i, aheadP a id p))
  case atStart => exact ⟨0, rfl, by omega, by omega, rfl, by intro p hp; simp at hp⟩
  case round =>
    obtain ⟨i, rfl, hgi, hin, rfl, HI⟩ := hrel
    by_cases hst : ∃ hil : i < r.length, aheadP a id r[i]
    · obtain ⟨hil, hah⟩ := hst
      obtain ⟨x0, x1⟩ := HH.out.at_ i hil
      have HI2 : Hid (∀ p ∈ r.take (i + 1), aheadP a id p) := by
        intro p hp
        rw [List.take_add_one, List.getElem?_eq_getElem hil, List.mem_append] at hp
        rcases hp with hp | hp
        · exact HI.out p hp
        · obtain rfl : p = r[i] := by simpa using hp
          exact hah
      generalize r[i] = p at *
      obtain ⟨pa, pb⟩ := p
      have b1 : (0 : Int) ≤ (i : Int) := by omega
      have b2 : (i : Int) < (n : Int) := by have := HN.out; omega
      rcases hah with hah | ⟨hah, hah2⟩
      · have t1 : decide (pa < a) = true := decide_eq_true hah
        go_wp2_with fail
        go_roundg (gk - 1)
        case rel => exact ⟨i + 1, by go_num, by omega, by omega, rfl, HI2.out⟩
        case measure => omega
      · subst hah
        have t1 : decide (pb ≤ id) = true := decide_eq_true hah2
        go_wp2_with fail
        go_roundg (gk - 1)
        case rel => exact ⟨i + 1, by go_num, by omega, by omega, rfl, HI2.out⟩
        case measure => omega
    · have hput : PutAt a id r i := by
        refine ⟨HI.out, fun p hp ha => hst ?_⟩
        obtain ⟨hil, e⟩ := List.getElem?_eq_some_iff.1 hp
        exact ⟨hil, by rw [e]; exact ha⟩
      have HPUT := Lib.hid hput
      have key : i = n ∨ (∃ hil : i < r.length, a < (r[i]).1) ∨ (∃ hil : i < r.length, (r[i]).1 = a ∧ id < (r[i]).2) := by
        by_cases hil : i < r.length
        · have h1 : ¬ aheadP a id r[i] := fun h => hst ⟨hil, h⟩
          unfold aheadP at h1
          rcases Int.lt_trichotomy (r[i]).1 a with h2 | h2 | h2
          · exact absurd (Or.inl h2) h1
          · exact Or.inr (Or.inr ⟨hil, h2, by have : ¬ (r[i]).2 ≤ id := fun h3 => h1 (Or.inr ⟨h2, h3⟩); omega⟩)
          · exact Or.inr (Or.inl ⟨hil, h2⟩)
        · have := HN.out
          exact Or.inl (by omega)
      clear hst hput
      have b1 : (0 : Int) ≤ (i : Int) := by omega
      have b2 : (i : Int) ≤ (c : Int) := by omega
      have b3 : i ≤ c := by omega
      have b4 : (i : Int) ≤ (n : Int) := by omega
      have O0 : Hid ((wr.alloc (.cells #[] 32)).ownsRow wr.heap.size 32 2 (.slice (some ⟨wr.heap.size, 0, none⟩) 0 0) 0 []) := ⟨rfl, Or.inr ⟨wr.heap.size, 0, #[], rfl, Nat.le_refl _, heap_alloc_new wr _, Nat.le_refl _, by unfold maxLen; omega, rfl, rfl⟩⟩
      have B0 : Hid (Below wr.heap.size wr (wr.alloc (.cells #[] 32))) := (Below.refl _ _).alloc (Nat.le_refl _) _
      have hsz0 : Hid (wr.heap.size ≤ (wr.alloc (.cells #[] 32)).heap.size) := B0.out.size
      have hlen1 : Hid ((flat2 (r.take i)).length = i * 2) := by unfold Hid; rw [flat2_len, List.length_take, HN.out, Nat.min_eq_left hin]
      have hlen3 : Hid ((flat2 (r.drop i)).length = (n - i) * 2) := by unfold Hid; rw [flat2_len, List.length_drop, HN.out]
      have HN1 : Hid (∀ j u, (flat2 (r.take i))[j]? = some u → (wr.alloc (.cells #[] 32)).cell? ((⟨g, o, none⟩ : Addr).add j) = some u) := by
        intro j u hj
        rw [Addr.add_mid]
        refine (HH.out.later B0.out).reads j u ?_
        rw [show r = r.take i ++ r.drop i from (List.take_append_drop i r).symm, flat2_append, List.getElem?_append_left (List.getElem?_eq_some_iff.1 hj).1]
        exact hj
      have h63a : Hid (0 + i ≤ maxLen) := by unfold Hid maxLen; omega
      have h47a : Hid ((0 + i) * 16 ≤ 140737488355328) := by unfold Hid; omega
      have h63b : Hid (i + 1 ≤ maxLen) := by unfold Hid maxLen; omega
      have h47b : Hid ((i + 1) * 16 ≤ 140737488355328) := by unfold Hid; omega
      have h63c : Hid (i + 1 + (n - i) ≤ maxLen) := by unfold Hid maxLen; omega
      have h47c : Hid ((i + 1 + (n - i)) * 16 ≤ 140737488355328) := by unfold Hid; omega
      have ST1 : Hid (∀ (v1 : Value) (w1 : World), w1.ownsRow wr.heap.size 32 2 v1 (0 + i) ([] ++ flat2 (r.take i)) → (wr.alloc (.cells #[] 32)).grownBy w1 (Value.slice (some ⟨wr.heap.size, 0, none⟩) 0 0).ownBlock →
          ∃ A1 c1, v1 = .slice A1 i c1 ∧ Hid ((w1.alloc (.cells #[.int .i64 a, .int .i64 id] 32)).ownsRow wr.heap.size 32 2 (.slice A1 i c1) i (flat2 (r.take i))) ∧ Hid (Below wr.heap.size wr (w1.alloc (.cells #[.int .i64 a, .int .i64 id] 32))) ∧ True ∧ True) := by
        intro v1 w1 hown hgrow
        rw [Nat.zero_add, List.nil_append] at hown
        have hb1 := B0.out.grown hgrow hsz0.out (fun k hk => (O0.out.lt k hk).1)
        have hal : Below w1.heap.size w1 (w1.alloc (.cells #[.int .i64 a, .int .i64 id] 32)) := (Below.refl _ _).alloc (Nat.le_refl _) _
        obtain ⟨A1, c1, rfl⟩ := own_form hown (by decide) hown.1
        exact ⟨A1, c1, rfl, own_later hown hal, hb1.trans (hal.mono hb1.size), trivial, trivial⟩
      have ST2 : Hid (∀ (A1 : Option Addr) (c1 : Nat) (w1 : World) (v2 : Value) (w2 : World), (w1.alloc (.cells #[.int .i64 a, .int .i64 id] 32)).ownsRow wr.heap.size 32 2 (.slice A1 i c1) i (flat2 (r.take i)) → Below wr.heap.size wr (w1.alloc (.cells #[.int .i64 a, .int .i64 id] 32)) → w2.ownsRow wr.heap.size 32 2 v2 (i + 1) (flat2 (r.take i) ++ [.int .i64 a, .int .i64 id]) → (w1.alloc (.cells #[.int .i64 a, .int .i64 id] 32)).grownBy w2 (Value.slice A1 i c1).ownBlock →
          ∃ A2 c2, v2 = .slice A2 (i + 1) c2 ∧ Hid (w2.ownsRow wr.heap.size 32 2 (.slice A2 (i + 1) c2) (i + 1) (flat2 (r.take i ++ [(a, id)]))) ∧ Hid (Below wr.heap.size wr w2) ∧ Hid (∀ j u, (flat2 (r.drop i))[j]? = some u → w2.cell? ((⟨g, o + i * 2, none⟩ : Addr).add j) = some u)) := by
        intro A1 c1 w1 v2 w2 h1 h2 hown hgrow
        have hb2 := h2.grown hgrow h2.size (fun k hk => (h1.lt k hk).1)
        obtain ⟨A2, c2, rfl⟩ := own_form hown (by decide) hown.1
        refine ⟨A2, c2, rfl, by rw [flat2_append]; exact hown, hb2, fun j u hj => ?_⟩
        rw [Addr.add_mid, show o + i * 2 + j = o + (i * 2 + j) by omega]
        refine (HH.out.later hb2).reads _ u ?_
        rw [show r = r.take i ++ r.drop i from (List.take_append_drop i r).symm, flat2_append, List.getElem?_append_right (by rw [hlen1.out]; omega), hlen1.out, show i * 2 + j - i * 2 = j by omega]
        exact hj
      have ST3 : Hid (∀ (A2 : Option Addr) (c2 : Nat) (w2 : World) (v3 : Value) (w3 : World), w2.ownsRow wr.heap.size 32 2 (.slice A2 (i + 1) c2) (i + 1) (flat2 (r.take i ++ [(a, id)])) → Below wr.heap.size wr w2 → w3.ownsRow wr.heap.size 32 2 v3 (i + 1 + (n - i)) (flat2 (r.take i ++ [(a, id)]) ++ flat2 (r.drop i)) → w2.grownBy w3 (Value.slice A2 (i + 1) c2).ownBlock →
          ∃ A3 c3, v3 = .slice A3 (n + 1) c3 ∧ Hid (RefIs w3 A3 (n + 1) c3 (r.take i ++ [(a, id)] ++ r.drop i)) ∧ Hid (Below wr.heap.size wr w3)) := by
        intro A2 c2 w2 v3 w3 h1 h2 hown hgrow
        have hb3 := h2.grown hgrow h2.size (fun k hk => (h1.lt k hk).1)
        rw [← flat2_append, show i + 1 + (n - i) = n + 1 by omega] at hown
        obtain ⟨A3, c3, rfl⟩ := own_form hown (by decide) hown.1
        exact ⟨A3, c3, rfl, RefIs.of_own hown (by have := HN.out; simp; omega), hb3⟩
      rcases key with hin2 | ⟨hil, hk⟩ | ⟨hil, hk, hk2⟩
      · have b5 : ¬ (i : Int) < (n : Int) := by omega
        have HD9 : Hid (r.drop i = []) := List.drop_eq_nil_of_le (by have := HN.out; omega)
        clear hin2
        by_cases hci : i = c
        · subst hci
          go_wp2_with (first
            | (at_builtin; refine wpList_append_own _ rfl _ _ 25 rfl wr.heap.size 32 i0 _ 2 16 Try.underlying25 HZ.out.1 HZ.out.2.1 HZ.out.2.2.1 HZ.out.2.2.2 rfl (by decide) (.slice (some ⟨wr.heap.size, 0, none⟩) 0 0) 0 [] rfl O0.out ⟨g, o, none⟩ i i (flat2 (r.take i)) rfl hlen1.out HN1.out flat2_one h63a.out h47a.out hsz0.out ?_; intro v1 w1 hown hgrow _; obtain ⟨A1, c1, rfl, G1, G2, G3, G4⟩ := ST1.out v1 w1 hown hgrow; clear hown hgrow)
            | (at_builtin; refine wpList_append_own _ rfl _ _ 25 rfl wr.heap.size 32 i0 _ 2 16 Try.underlying25 HZ.out.1 HZ.out.2.1 HZ.out.2.2.1 HZ.out.2.2.2 rfl (by decide) (.slice A1 i c1) i (flat2 (r.take i)) rfl G1.out ⟨w1.heap.size, 0, none⟩ 1 1 [.int .i64 a, .int .i64 id] rfl rfl cells2 one2 h63b.out h47b.out G2.out.size ?_; intro v2 w2 hown hgrow _; obtain ⟨A2, c2, rfl, K1, K2, K3⟩ := ST2.out A1 c1 w1 v2 w2 G1.out G2.out hown hgrow; clear hown hgrow)
            | (at_builtin; refine wpList_append_own _ rfl _ _ 25 rfl wr.heap.size 32 i0 _ 2 16 Try.underlying25 HZ.out.1 HZ.out.2.1 HZ.out.2.2.1 HZ.out.2.2.2 rfl (by decide) (.slice A2 (i + 1) c2) (i + 1) (flat2 (r.take i ++ [(a, id)])) rfl K1.out ⟨g, o, none⟩ 0 0 [] (by simp [Act.eval]) rfl (fun j u hj => by simp at hj) (fun u hu => by simp at hu) (by unfold maxLen; omega) (by omega) K2.out.size ?_; intro v3 w3 hown hgrow _; obtain ⟨A3, c3, rfl, M1, M2⟩ := ST3.out A2 c2 w2 v3 w3 K1.out K2.out (by rw [show n - i = 0 by omega, HD9.out]; exact hown) hgrow; clear hown hgrow)
            | fail)
          go_ret
          exact ⟨A3, c3, i, by omega, HPUT.out, rfl, by simpa using M1.out, M2.out⟩
        · have b6 : ¬ c = i := fun e => hci e.symm
          go_wp2_with (first
            | (at_builtin; refine wpList_append_own _ rfl _ _ 25 rfl wr.heap.size 32 i0 _ 2 16 Try.underlying25 HZ.out.1 HZ.out.2.1 HZ.out.2.2.1 HZ.out.2.2.2 rfl (by decide) (.slice (some ⟨wr.heap.size, 0, none⟩) 0 0) 0 [] rfl O0.out ⟨g, o, none⟩ i c (flat2 (r.take i)) rfl hlen1.out HN1.out flat2_one h63a.out h47a.out hsz0.out ?_; intro v1 w1 hown hgrow _; obtain ⟨A1, c1, rfl, G1, G2, G3, G4⟩ := ST1.out v1 w1 hown hgrow; clear hown hgrow)
            | (at_builtin; refine wpList_append_own _ rfl _ _ 25 rfl wr.heap.size 32 i0 _ 2 16 Try.underlying25 HZ.out.1 HZ.out.2.1 HZ.out.2.2.1 HZ.out.2.2.2 rfl (by decide) (.slice A1 i c1) i (flat2 (r.take i)) rfl G1.out ⟨w1.heap.size, 0, none⟩ 1 1 [.int .i64 a, .int .i64 id] rfl rfl cells2 one2 h63b.out h47b.out G2.out.size ?_; intro v2 w2 hown hgrow _; obtain ⟨A2, c2, rfl, K1, K2, K3⟩ := ST2.out A1 c1 w1 v2 w2 G1.out G2.out hown hgrow; clear hown hgrow)
            | (at_builtin; refine wpList_append_own _ rfl _ _ 25 rfl wr.heap.size 32 i0 _ 2 16 Try.underlying25 HZ.out.1 HZ.out.2.1 HZ.out.2.2.1 HZ.out.2.2.2 rfl (by decide) (.slice A2 (i + 1) c2) (i + 1) (flat2 (r.take i ++ [(a, id)])) rfl K1.out ⟨g, o + i * 2, none⟩ (n - i) (c - i) (flat2 (r.drop i)) rfl hlen3.out K3.out flat2_one h63c.out h47c.out K2.out.size ?_; intro v3 w3 hown hgrow _; obtain ⟨A3, c3, rfl, M1, M2⟩ := ST3.out A2 c2 w2 v3 w3 K1.out K2.out hown hgrow; clear hown hgrow)
            | fail)
          go_ret
          exact ⟨A3, c3, i, by omega, HPUT.out, rfl, by simpa using M1.out, M2.out⟩
      · obtain ⟨x0, x1⟩ := HH.out.at_ i hil
        generalize r[i] = p at *
        obtain ⟨pa, pb⟩ := p
        have b5 : (i : Int) < (n : Int) := by have := HN.out; omega
        have t1 : decide (pa < a) = false := decide_eq_false (by simp at hk; omega)
        have t2 : (pa == a) = false := by simp at hk ⊢; omega
        go_wp2_with (first
          | (at_builtin; refine wpList_append_own _ rfl _ _ 25 rfl wr.heap.size 32 i0 _ 2 16 Try.underlying25 HZ.out.1 HZ.out.2.1 HZ.out.2.2.1 HZ.out.2.2.2 rfl (by decide) (.slice (some ⟨wr.heap.size, 0, none⟩) 0 0) 0 [] rfl O0.out ⟨g, o, none⟩ i c (flat2 (r.take i)) rfl hlen1.out HN1.out flat2_one h63a.out h47a.out hsz0.out ?_; intro v1 w1 hown hgrow _; obtain ⟨A1, c1, rfl, G1, G2, G3, G4⟩ := ST1.out v1 w1 hown hgrow; clear hown hgrow)
          | (at_builtin; refine wpList_append_own _ rfl _ _ 25 rfl wr.heap.size 32 i0 _ 2 16 Try.underlying25 HZ.out.1 HZ.out.2.1 HZ.out.2.2.1 HZ.out.2.2.2 rfl (by decide) (.slice A1 i c1) i (flat2 (r.take i)) rfl G1.out ⟨w1.heap.size, 0, none⟩ 1 1 [.int .i64 a, .int .i64 id] rfl rfl cells2 one2 h63b.out h47b.out G2.out.size ?_; intro v2 w2 hown hgrow _; obtain ⟨A2, c2, rfl, K1, K2, K3⟩ := ST2.out A1 c1 w1 v2 w2 G1.out G2.out hown hgrow; clear hown hgrow)
          | (at_builtin; refine wpList_append_own _ rfl _ _ 25 rfl wr.heap.size 32 i0 _ 2 16 Try.underlying25 HZ.out.1 HZ.out.2.1 HZ.out.2.2.1 HZ.out.2.2.2 rfl (by decide) (.slice A2 (i + 1) c2) (i + 1) (flat2 (r.take i ++ [(a, id)])) rfl K1.out ⟨g, o + i * 2, none⟩ (n - i) (c - i) (flat2 (r.drop i)) rfl hlen3.out K3.out flat2_one h63c.out h47c.out K2.out.size ?_; intro v3 w3 hown hgrow _; obtain ⟨A3, c3, rfl, M1, M2⟩ := ST3.out A2 c2 w2 v3 w3 K1.out K2.out hown hgrow; clear hown hgrow)
          | fail)
        go_ret
        exact ⟨A3, c3, i, by omega, HPUT.out, rfl, by simpa using M1.out, M2.out⟩
      · obtain ⟨x0, x1⟩ := HH.out.at_ i hil
        generalize r[i] = p at *
        obtain ⟨pa, pb⟩ := p
        have b5 : (i : Int) < (n : Int) := by have := HN.out; omega
        obtain rfl : a = pa := hk.symm
        have t1 : decide (pb ≤ id) = false := decide_eq_false (by simp at hk2; omega)
        go_wp2_with (first
          | (at_builtin; refine wpList_append_own _ rfl _ _ 25 rfl wr.heap.size 32 i0 _ 2 16 Try.underlying25 HZ.out.1 HZ.out.2.1 HZ.out.2.2.1 HZ.out.2.2.2 rfl (by decide) (.slice (some ⟨wr.heap.size, 0, none⟩) 0 0) 0 [] rfl O0.out ⟨g, o, none⟩ i c (flat2 (r.take i)) rfl hlen1.out HN1.out flat2_one h63a.out h47a.out hsz0.out ?_; intro v1 w1 hown hgrow _; obtain ⟨A1, c1, rfl, G1, G2, G3, G4⟩ := ST1.out v1 w1 hown hgrow; clear hown hgrow)
          | (at_builtin; refine wpList_append_own _ rfl _ _ 25 rfl wr.heap.size 32 i0 _ 2 16 Try.underlying25 HZ.out.1 HZ.out.2.1 HZ.out.2.2.1 HZ.out.2.2.2 rfl (by decide) (.slice A1 i c1) i (flat2 (r.take i)) rfl G1.out ⟨w1.heap.size, 0, none⟩ 1 1 [.int .i64 a, .int .i64 id] rfl rfl cells2 one2 h63b.out h47b.out G2.out.size ?_; intro v2 w2 hown hgrow _; obtain ⟨A2, c2, rfl, K1, K2, K3⟩ := ST2.out A1 c1 w1 v2 w2 G1.out G2.out hown hgrow; clear hown hgrow)
          | (at_builtin; refine wpList_append_own _ rfl _ _ 25 rfl wr.heap.size 32 i0 _ 2 16 Try.underlying25 HZ.out.1 HZ.out.2.1 HZ.out.2.2.1 HZ.out.2.2.2 rfl (by decide) (.slice A2 (i + 1) c2) (i + 1) (flat2 (r.take i ++ [(a, id)])) rfl K1.out ⟨g, o + i * 2, none⟩ (n - i) (c - i) (flat2 (r.drop i)) rfl hlen3.out K3.out flat2_one h63c.out h47c.out K2.out.size ?_; intro v3 w3 hown hgrow _; obtain ⟨A3, c3, rfl, M1, M2⟩ := ST3.out A2 c2 w2 v3 w3 K1.out K2.out hown hgrow; clear hown hgrow)
          | fail)
        go_ret
        exact ⟨A3, c3, i, by omega, HPUT.out, rfl, by simpa using M1.out, M2.out⟩
end Go.Proofs.Ythcfgchlaagfkaa
