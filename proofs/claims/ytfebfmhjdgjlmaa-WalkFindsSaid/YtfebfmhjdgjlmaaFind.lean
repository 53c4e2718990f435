/-
  The walk of walk.Find over a row of headers. No condition beyond what such a row is.
-/
import Derived.Test.YtfebfmhjdgjlmaaRef
namespace Go.Proofs.Ytfebfmhjdgjlmaa
open Go.ChangeShapes Go.WideShapes Go.ChangeAt Go.RowKit
set_option linter.unusedVariables false

/-- A slice that reads as the headers ps. -/
def HdRow (w : World) (A : Option Addr) (n : Nat) (ps : List Hd) : Prop :=
  ps.length = n ∧ (0 < n → ∃ g o, A = some ⟨g, o, none⟩ ∧ g < w.heap.size ∧ ∀ i, i < n → w.cell? ⟨g, o + i * 3, none⟩ = some (.int .i64 (ps.getD i (0, 0, 0)).1) ∧ w.cell? ⟨g, o + i * 3 + 1, none⟩ = some (.int .i64 (ps.getD i (0, 0, 0)).2.1) ∧ w.cell? ⟨g, o + i * 3 + 2, none⟩ = some (.int .i64 (ps.getD i (0, 0, 0)).2.2))
theorem HdRow.later {w v : World} {A : Option Addr} {n : Nat} {ps : List Hd} (h : HdRow w A n ps) (hb : Below w.heap.size w v) : HdRow v A n ps := by
  refine ⟨h.1, fun hn => ?_⟩
  obtain ⟨g, o, rfl, hg, hc⟩ := h.2 hn
  refine ⟨g, o, rfl, Nat.lt_of_lt_of_le hg hb.size, fun i hi => ?_⟩
  obtain ⟨c1, c2, c3⟩ := hc i hi
  exact ⟨(hb.cell (p := ⟨g, _, none⟩) hg).trans c1, (hb.cell (p := ⟨g, _, none⟩) hg).trans c2, (hb.cell (p := ⟨g, _, none⟩) hg).trans c3⟩
theorem HdRow.of_own {w : World} {B : Nat} {T : TypeId} {A : Option Addr} {n c : Nat} {ps : List Hd} (h : Own w B T (.slice A n c) ps) (hn : n = ps.length) : HdRow w A n ps := by
  refine ⟨hn.symm, fun hp => ?_⟩
  rcases h.2 with ⟨hv, h0⟩ | ⟨g, cap, cur, hv, hg, hh, _⟩
  · omega
  · injection hv with hA
    subst hA
    have hcell : ∀ j u, (flat ps)[j]? = some u → w.cell? ((⟨g, 0, none⟩ : Addr).add j) = some u := World.ownsRow.cells h (g := g) rfl
    have hc : ∀ j u, (flat ps)[j]? = some u → w.cell? ⟨g, 0 + j, none⟩ = some u := by
      intro j u hj
      have := hcell j u hj
      unfold Addr.add at this
      split at this
      · rename_i h0; subst h0; simpa using this
      · simpa using this
    refine ⟨g, 0, rfl, lt_of_block hh, fun i hi => ?_⟩
    have hi' : i < ps.length := by omega
    obtain ⟨f1, f2, f3⟩ := flat_get ps i hi'
    rw [List.getD_eq_getElem?_getD, List.getElem?_eq_getElem hi']
    exact ⟨hc _ _ f1, by simpa [Nat.add_assoc] using hc _ _ f2, by simpa [Nat.add_assoc] using hc _ _ f3⟩

/-- The first header of a kind. -/
def fnd (k : Int) : List Hd → Int
  | [] => -1
  | p :: t => if p.1 = k then 0 else if fnd k t = -1 then -1 else fnd k t + 1
theorem fnd_ge (k : Int) (ps : List Hd) : -1 ≤ fnd k ps := by
  induction ps with
  | nil => simp [fnd]
  | cons p t ih => unfold fnd; (repeat' split) <;> omega
theorem fnd_at (k : Int) (ps : List Hd) (i : Nat) (hi : i < ps.length) (h : (ps.getD i (0, 0, 0)).1 = k) (hb : ∀ j, j < i → (ps.getD j (0, 0, 0)).1 ≠ k) : fnd k ps = i := by
  induction ps generalizing i with
  | nil => simp at hi
  | cons p t ih =>
    unfold fnd
    cases i with
    | zero => rw [if_pos (by simpa using h)]; rfl
    | succ i =>
      rw [if_neg (by simpa using hb 0 (by omega)), ih i (by simpa using hi) (by simpa using h) (fun j hj => by simpa using hb (j + 1) (by omega)), if_neg (by omega)]
      simp
theorem fnd_none (k : Int) (ps : List Hd) (hb : ∀ j, j < ps.length → (ps.getD j (0, 0, 0)).1 ≠ k) : fnd k ps = -1 := by
  induction ps with
  | nil => rfl
  | cons p t ih =>
    unfold fnd
    rw [if_neg (by simpa using hb 0 (by simp)), if_pos (ih fun j hj => by simpa using hb (j + 1) (by simpa using hj))]

theorem find_any (A : Option Addr) (n c : Nat) (ps : List Hd) (k : Int) (w : World) (h : HdRow w A n ps) (hn : n ≤ 140737488351232) : Calls Try.prog 10 #[.slice A n c, .int .i64 k] w fun e w' => e = .returned (.int .i64 (fnd k ps)) ∧ Below w.heap.size w w' := by
  have HH := Lib.hid h
  clear h
  go_enter Try.func10, Try.ntmps10
  go_wp2_with fail
  go_loopw [9] (fun i wr => ∃ j : Nat, i = .int .i64 j ∧ j ≤ n ∧ Hid (Below w.heap.size w wr ∧ ∀ m, m < j → (ps.getD m (0, 0, 0)).1 ≠ k)) (fun i _ => n - (intOf i).toNat)
  case atStart => exact ⟨0, rfl, by omega, Below.refl _ _, fun m hm => by omega⟩
  case round =>
    obtain ⟨j, rfl, hj, HI⟩ := hrel
    by_cases hlt : j < n
    · obtain ⟨g, o, rfl, hg, hc⟩ := (HH.out.later HI.out.1).2 (by omega)
      obtain ⟨c1, c2, c3⟩ := hc j hlt
      clear hc
      obtain ⟨p, hp⟩ : ∃ p, ps.getD j (0, 0, 0) = p := ⟨_, rfl⟩
      rw [hp] at c1 c2 c3
      have HP := Lib.hid hp
      clear hp
      by_cases hk : p.1 = k
      · have t1 : (p.1 == k) = true := by simpa using hk
        go_wp2
        go_ret
        exact ⟨ret_int (fnd_at k ps j (by rw [HH.out.1]; exact hlt) (by rw [HP.out]; exact hk) HI.out.2).symm, HI.out.1.alloc HI.out.1.size _⟩
      · have t1 : (p.1 == k) = false := by simpa using hk
        have HK := Lib.hid hk
        clear hk
        go_wp2
        go_roundw
        case rel =>
          refine ⟨j + 1, by go_num, by omega, HI.out.1.alloc HI.out.1.size _, fun m hm => ?_⟩
          rcases (show m < j ∨ m = j by omega) with h | rfl
          · exact HI.out.2 m h
          · rw [HP.out]; exact HK.out
        case measure => simp [intOf]; omega
    · obtain rfl : j = n := by omega
      go_wp2
      go_ret
      exact ⟨ret_int (fnd_none k ps (fun m hm => HI.out.2 m (by have := HH.out.1; omega))).symm, HI.out.1⟩
end Go.Proofs.Ytfebfmhjdgjlmaa
