/-
  The walks of slices.Clone and slices.Reverse at a few pairs; slices.Index, slices.Contains. No condition beyond that.
-/
import Derived.Test.YtikceomnkkpljaaSteer
import Derived.Lib.SliceRun
namespace Go.Proofs.Ytikceomnkkpljaa
open Go.ChangeShapes Go.WideShapes Go.ChangeAt Go.RowKit
set_option linter.unusedVariables false
set_option linter.unusedSimpArgs false

def flatPr (ps : List (Int × Int)) : List Value := ps.flatMap (fun p => [.int .i64 p.1, .int .i64 p.2])
theorem flatPr_len (ps : List (Int × Int)) : (flatPr ps).length = ps.length * 2 := by
  induction ps with
  | nil => rfl
  | cons p t ih => simp [flatPr] at *; omega
theorem flatPr_one {l : List (Int × Int)} : ∀ u ∈ flatPr l, u.oneCell' = true := by
  intro u hu
  simp only [flatPr, List.mem_flatMap] at hu
  obtain ⟨s, _, hu⟩ := hu
  simp at hu
  rcases hu with rfl | rfl <;> rfl
theorem flatPr_at : ∀ (l : List (Int × Int)) (i : Nat) (h : i < l.length), (flatPr l)[i * 2]? = some (.int .i64 (l[i]).1) ∧ (flatPr l)[i * 2 + 1]? = some (.int .i64 (l[i]).2)
  | p :: t, 0, _ => ⟨rfl, rfl⟩
  | p :: t, i + 1, h => by
    have r := flatPr_at t i (by simpa using h)
    have e : flatPr (p :: t) = .int .i64 p.1 :: .int .i64 p.2 :: flatPr t := rfl
    rw [e, show (i + 1) * 2 = i * 2 + 1 + 1 by omega, show i * 2 + 1 + 1 + 1 = (i * 2 + 1) + 1 + 1 by omega]
    exact r
def OwnP (w : World) (B : Nat) (v : Value) (l : List (Int × Int)) : Prop := w.ownsRow B 42 2 v l.length (flatPr l)
theorem info42 : (Try.prog.info? 42).map (fun i => (i.zero, i.size, i.bytes)) = some (some (.agg #[.int .i64 0, .int .i64 0]), 2, 16) := by kernel_rfl
theorem OwnP.form {w : World} {B : Nat} {x : Value} {l : List (Int × Int)} (h : OwnP w B x l) : ∃ A c, x = .slice A l.length c := by
  rcases h.2 with ⟨rfl, h0⟩ | ⟨g, cap, cur, rfl, _⟩
  · exact ⟨none, 0, by rw [h0]⟩
  · exact ⟨_, _, rfl⟩
theorem OwnP.later {w v : World} {B : Nat} {x : Value} {l : List (Int × Int)} (h : OwnP w B x l) (hb : Below w.heap.size w v) : OwnP v B x l :=
  ⟨h.1, h.2.imp id fun ⟨g, cap, cur, h1, h2, h3, h4⟩ => ⟨g, cap, cur, h1, h2, (hb.block g (lt_of_block h3)).trans h3, h4⟩⟩
theorem PRow.news {w : World} {A : Option Addr} {ps : List (Int × Int)} (h : PRow w A ps) (a : Addr) (ha : 0 < ps.length → A = some a) : ∀ j u, (flatPr ps)[j]? = some u → w.cell? (a.add j) = some u := by
  intro j u hj
  have hjl : j < ps.length * 2 := by
    have := (List.getElem?_eq_some_iff.1 hj).1
    rwa [flatPr_len] at this
  obtain ⟨g, o, e, hg, hc⟩ := h (by omega)
  have := ha (by omega)
  rw [e] at this
  injection this with this
  subst this
  rw [Addr.add_mid]
  have hi : j / 2 < ps.length := by omega
  obtain ⟨f0, f1⟩ := flatPr_at ps (j / 2) hi
  rcases (show j = j / 2 * 2 ∨ j = j / 2 * 2 + 1 by omega) with e2 | e2
  · rw [e2] at hj ⊢
    rw [f0] at hj
    rw [(hc _ hi).1]
    exact hj
  · rw [e2] at hj ⊢
    rw [f1] at hj
    rw [show o + (j / 2 * 2 + 1) = o + j / 2 * 2 + 1 by omega, (hc _ hi).2]
    exact hj
set_option maxHeartbeats 1600000 in
theorem clone_any (A : Option Addr) (n c : Nat) (ps : List (Int × Int)) (w : World) (h : PRow w A ps) (hn : ps.length = n) (hm : n ≤ 1000) :
    Calls Try.prog 27 #[.slice A n c] w fun e w' => ∃ v, e = .returned v ∧ OwnP w' w.heap.size v ps ∧ Below w.heap.size w w' := by
  obtain ⟨i0, hi, hz0, hz1, hz2⟩ := info_parts info42
  have HZ := Lib.hid (And.intro hi (And.intro hz0 (And.intro hz1 hz2)))
  have HH := Lib.hid h
  have HL := Lib.hid hn
  clear h hn hi hz0 hz1 hz2
  cases A with
  | none =>
    have h0 : ps = [] := by
      rcases Nat.eq_zero_or_pos ps.length with h | h
      · exact List.eq_nil_of_length_eq_zero h
      · obtain ⟨g, o, e, _⟩ := HH.out h
        cases e
    subst h0
    have hq : (binOp .eql 22 (.slice none n c) (.slice none 0 0)).run Try.prog w = .ok (.bool true) w := Lib.run_eql_slice_nil w 22 42 none n c 0 0 Try.underlying22
    go_enter Try.func27, Try.ntmps27
    go_wp2_with fail
    go_ret
    exact ⟨_, rfl, World.ownsRow_nil _ _ _ _, Below.refl _ _⟩
  | some a =>
    have O0 : Hid ((w.alloc (.cells #[] 42)).ownsRow w.heap.size 42 2 (.slice (some ⟨w.heap.size, 0, none⟩) 0 0) 0 []) := ⟨rfl, Or.inr ⟨w.heap.size, 0, #[], rfl, Nat.le_refl _, heap_alloc_new w _, Nat.le_refl _, by unfold maxLen; omega, rfl, rfl⟩⟩
    have B0 : Hid (Below w.heap.size w (w.alloc (.cells #[] 42))) := (Below.refl _ _).alloc (Nat.le_refl _) _
    have HN : Hid (∀ j u, (flatPr ps)[j]? = some u → (w.alloc (.cells #[] 42)).cell? (a.add j) = some u) := (HH.out.later B0.out).news a (fun _ => rfl)
    have hlen : Hid ((flatPr ps).length = n * 2) := by unfold Hid; rw [flatPr_len, HL.out]
    have h63 : Hid (0 + n ≤ maxLen) := by unfold Hid maxLen; omega
    have h47 : Hid ((0 + n) * 16 ≤ 140737488355328) := by unfold Hid; omega
    have hsz : Hid (w.heap.size ≤ (w.alloc (.cells #[] 42)).heap.size) := by unfold Hid; simp
    have hq : (binOp .eql 22 (.slice (some a) n c) (.slice none 0 0)).run Try.prog w = .ok (.bool false) w := Lib.run_eql_slice_nil w 22 42 (some a) n c 0 0 Try.underlying22
    go_enter Try.func27, Try.ntmps27
    go_wp2_with (first
      | (at_builtin; refine wpList_append_own _ rfl _ _ 22 rfl w.heap.size 42 i0 _ 2 16 Try.underlying22 HZ.out.1 HZ.out.2.1 HZ.out.2.2.1 HZ.out.2.2.2 rfl (Nat.succ_pos 1) _ 0 [] rfl O0.out a n c (flatPr ps) rfl hlen.out HN.out flatPr_one h63.out h47.out hsz.out ?_; intro v' w1 hown hgrow _; have G1 := Lib.hid hown; have G2 := Lib.hid hgrow; clear hown hgrow)
      | fail)
    go_ret
    refine ⟨_, rfl, ?_, B0.out.grown G2.out hsz.out (fun k hk => (O0.out.lt k hk).1)⟩
    have := G1.out
    rw [Nat.zero_add] at this
    unfold OwnP
    rw [HL.out]
    exact this
/-- A cell of a row of one's own is set. -/
theorem row_put {w : World} {B g n c : Nat} {xs : List Value} (h : w.ownsRow B 42 2 (.slice (some ⟨g, 0, none⟩) n c) n xs) (j : Nat) (u : Value) (hj : j < n * 2) : (w.setCell ⟨g, j, none⟩ u).ownsRow B 42 2 (.slice (some ⟨g, 0, none⟩) n c) n (xs.set j u) := by
  rcases h.2 with ⟨hv, _⟩ | ⟨g', cap, cur, hv, hB, hh, hcap, hmax, hsz, htk⟩
  · cases hv
  injection hv with e1 e2 e3
  injection e1 with e1
  injection e1 with e1
  subst e1 e3
  refine ⟨by rw [List.length_set]; exact h.1, Or.inr ⟨g, c, cur.setIfInBounds j u, rfl, hB, Blk.put hh j u rfl, hcap, hmax, by simpa using hsz, ?_⟩⟩
  rw [Array.toList_setIfInBounds, ← htk]
  rw [List.take_set]
theorem row_cell {w : World} {B g n c : Nat} {xs : List Value} (h : w.ownsRow B 42 2 (.slice (some ⟨g, 0, none⟩) n c) n xs) (j : Nat) (u : Value) (hj : xs[j]? = some u) : w.cell? ⟨g, j, none⟩ = some u ∧ w.frozen? ⟨g, j, none⟩ = false := by
  rcases h.2 with ⟨hv, _⟩ | ⟨g', cap, cur, hv, hB, hh, hcap, hmax, hsz, htk⟩
  · cases hv
  injection hv with e1 e2 e3
  injection e1 with e1
  injection e1 with e1
  subst e1
  refine ⟨?_, Blk.free hh j⟩
  rw [Blk.cell hh, ← Array.getElem?_toList]
  rw [← htk, List.getElem?_take] at hj
  split at hj
  · exact hj
  · cases hj
theorem rev_small (g n c B : Nat) (l : List (Int × Int)) (w : World) (h : OwnP w B (.slice (some ⟨g, 0, none⟩) n c) l) (hl : l.length = n) (hn : n ≤ 1) (hB : B ≤ w.heap.size) :
    Calls Try.prog 28 #[.slice (some ⟨g, 0, none⟩) n c] w fun e w' => (∃ r, e = .returned r) ∧ OwnP w' B (.slice (some ⟨g, 0, none⟩) n c) l.reverse ∧ Chg (fun k => k = g) w w' := by
  have HH : Hid (OwnP w B (.slice (some ⟨g, 0, none⟩) n c) l.reverse) := by
    have : l.reverse = l := by
      match l, hl with
      | [], _ => rfl
      | [a], _ => rfl
      | a :: b :: t, hl => simp at hl; omega
    unfold Hid
    rw [this]
    exact h
  clear h
  go_enter Try.func28, Try.ntmps28
  go_wp2_with fail
  go_loopg [2, 3] 1 (fun gk s2 s3 wr => s2 = .int .i64 0 ∧ s3 = .int .i64 ((n : Int) - 1) ∧ gk = 1 ∧ wr = w)
  case atStart => exact ⟨rfl, rfl, rfl, rfl⟩
  case round =>
    obtain ⟨rfl, rfl, rfl, rfl⟩ := hrel
    have t : decide ((0 : Int) < (n : Int) - 1) = false := by simp; omega
    go_wp2_with fail
    go_end0
    exact ⟨⟨_, rfl⟩, HH.out, Chg.refl _ _⟩
set_option maxHeartbeats 3200000 in
theorem rev2 (g c B : Nat) (a0 a1 b0 b1 : Int) (w : World) (h : OwnP w B (.slice (some ⟨g, 0, none⟩) 2 c) [(a0, a1), (b0, b1)]) (hB : B ≤ w.heap.size) :
    Calls Try.prog 28 #[.slice (some ⟨g, 0, none⟩) 2 c] w fun e w' => (∃ r, e = .returned r) ∧ OwnP w' B (.slice (some ⟨g, 0, none⟩) 2 c) [(b0, b1), (a0, a1)] ∧ Chg (fun k => k = g) w w' := by
  have HH := Lib.hid h
  clear h
  go_enter Try.func28, Try.ntmps28
  go_wp2_with fail
  go_loopg [2, 3] 2 (fun gk s2 s3 wr => (s2 = .int .i64 0 ∧ s3 = .int .i64 1 ∧ gk = 2 ∧ Hid (OwnP wr B (.slice (some ⟨g, 0, none⟩) 2 c) [(a0, a1), (b0, b1)] ∧ Chg (fun k => k = g) w wr)) ∨ (s2 = .int .i64 1 ∧ s3 = .int .i64 0 ∧ gk = 1 ∧ Hid (OwnP wr B (.slice (some ⟨g, 0, none⟩) 2 c) [(b0, b1), (a0, a1)] ∧ Chg (fun k => k = g) w wr)))
  case atStart => exact Or.inl ⟨rfl, rfl, rfl, HH.out, Chg.refl _ _⟩
  case round =>
    rcases hrel with ⟨rfl, rfl, hgk, HI⟩ | ⟨rfl, rfl, hgk, HI⟩
    · have hI := HI.out.1
      obtain ⟨q0, f0⟩ := row_cell hI 0 (.int .i64 a0) rfl
      obtain ⟨q1, f1⟩ := row_cell hI 1 (.int .i64 a1) rfl
      obtain ⟨q2, f2⟩ := row_cell hI 2 (.int .i64 b0) rfl
      obtain ⟨q3, f3⟩ := row_cell hI 3 (.int .i64 b1) rfl
      have RR := Lib.hid (row_put (row_put (row_put (row_put (hI) 0 (.int .i64 b0) (by omega)) 1 (.int .i64 b1) (by omega)) 2 (.int .i64 a0) (by omega)) 3 (.int .i64 a1) (by omega))
      have CC := Lib.hid (Chg.put (Chg.put (Chg.put (Chg.put (HI.out.2) (p := ⟨g, 0, none⟩) (Or.inl rfl) (.int .i64 b0)) (p := ⟨g, 1, none⟩) (Or.inl rfl) (.int .i64 b1)) (p := ⟨g, 2, none⟩) (Or.inl rfl) (.int .i64 a0)) (p := ⟨g, 3, none⟩) (Or.inl rfl) (.int .i64 a1))
      clear hI
      go_wp2_with fail
      go_region
      all_goals
        go_wp2_with fail
        go_roundg (gk - 1)
        case rel => exact Or.inr (⟨rfl, rfl, by omega, OwnP.later (show OwnP _ B (.slice (some ⟨g, 0, none⟩) 2 c) [(b0, b1), (a0, a1)] from RR.out) ((Below.refl _ _).drew), CC.out.draw⟩)
        case measure => omega
    · go_wp2_with fail
      go_end0
      exact ⟨⟨_, rfl⟩, HI.out⟩
set_option maxHeartbeats 3200000 in
theorem rev3 (g c B : Nat) (a0 a1 b0 b1 c10 c11 : Int) (w : World) (h : OwnP w B (.slice (some ⟨g, 0, none⟩) 3 c) [(a0, a1), (b0, b1), (c10, c11)]) (hB : B ≤ w.heap.size) :
    Calls Try.prog 28 #[.slice (some ⟨g, 0, none⟩) 3 c] w fun e w' => (∃ r, e = .returned r) ∧ OwnP w' B (.slice (some ⟨g, 0, none⟩) 3 c) [(c10, c11), (b0, b1), (a0, a1)] ∧ Chg (fun k => k = g) w w' := by
  have HH := Lib.hid h
  clear h
  go_enter Try.func28, Try.ntmps28
  go_wp2_with fail
  go_loopg [2, 3] 2 (fun gk s2 s3 wr => (s2 = .int .i64 0 ∧ s3 = .int .i64 2 ∧ gk = 2 ∧ Hid (OwnP wr B (.slice (some ⟨g, 0, none⟩) 3 c) [(a0, a1), (b0, b1), (c10, c11)] ∧ Chg (fun k => k = g) w wr)) ∨ (s2 = .int .i64 1 ∧ s3 = .int .i64 1 ∧ gk = 1 ∧ Hid (OwnP wr B (.slice (some ⟨g, 0, none⟩) 3 c) [(c10, c11), (b0, b1), (a0, a1)] ∧ Chg (fun k => k = g) w wr)))
  case atStart => exact Or.inl ⟨rfl, rfl, rfl, HH.out, Chg.refl _ _⟩
  case round =>
    rcases hrel with ⟨rfl, rfl, hgk, HI⟩ | ⟨rfl, rfl, hgk, HI⟩
    · have hI := HI.out.1
      obtain ⟨q0, f0⟩ := row_cell hI 0 (.int .i64 a0) rfl
      obtain ⟨q1, f1⟩ := row_cell hI 1 (.int .i64 a1) rfl
      obtain ⟨q4, f4⟩ := row_cell hI 4 (.int .i64 c10) rfl
      obtain ⟨q5, f5⟩ := row_cell hI 5 (.int .i64 c11) rfl
      have RR := Lib.hid (row_put (row_put (row_put (row_put (hI) 0 (.int .i64 c10) (by omega)) 1 (.int .i64 c11) (by omega)) 4 (.int .i64 a0) (by omega)) 5 (.int .i64 a1) (by omega))
      have CC := Lib.hid (Chg.put (Chg.put (Chg.put (Chg.put (HI.out.2) (p := ⟨g, 0, none⟩) (Or.inl rfl) (.int .i64 c10)) (p := ⟨g, 1, none⟩) (Or.inl rfl) (.int .i64 c11)) (p := ⟨g, 4, none⟩) (Or.inl rfl) (.int .i64 a0)) (p := ⟨g, 5, none⟩) (Or.inl rfl) (.int .i64 a1))
      clear hI
      go_wp2_with fail
      go_region
      all_goals
        go_wp2_with fail
        go_roundg (gk - 1)
        case rel => exact Or.inr (⟨rfl, rfl, by omega, OwnP.later (show OwnP _ B (.slice (some ⟨g, 0, none⟩) 3 c) [(c10, c11), (b0, b1), (a0, a1)] from RR.out) ((Below.refl _ _).drew), CC.out.draw⟩)
        case measure => omega
    · go_wp2_with fail
      go_end0
      exact ⟨⟨_, rfl⟩, HI.out⟩
set_option maxHeartbeats 3200000 in
theorem rev4 (g c B : Nat) (a0 a1 b0 b1 c10 c11 d10 d11 : Int) (w : World) (h : OwnP w B (.slice (some ⟨g, 0, none⟩) 4 c) [(a0, a1), (b0, b1), (c10, c11), (d10, d11)]) (hB : B ≤ w.heap.size) :
    Calls Try.prog 28 #[.slice (some ⟨g, 0, none⟩) 4 c] w fun e w' => (∃ r, e = .returned r) ∧ OwnP w' B (.slice (some ⟨g, 0, none⟩) 4 c) [(d10, d11), (c10, c11), (b0, b1), (a0, a1)] ∧ Chg (fun k => k = g) w w' := by
  have HH := Lib.hid h
  clear h
  go_enter Try.func28, Try.ntmps28
  go_wp2_with fail
  go_loopg [2, 3] 3 (fun gk s2 s3 wr => (s2 = .int .i64 0 ∧ s3 = .int .i64 3 ∧ gk = 3 ∧ Hid (OwnP wr B (.slice (some ⟨g, 0, none⟩) 4 c) [(a0, a1), (b0, b1), (c10, c11), (d10, d11)] ∧ Chg (fun k => k = g) w wr)) ∨ (s2 = .int .i64 1 ∧ s3 = .int .i64 2 ∧ gk = 2 ∧ Hid (OwnP wr B (.slice (some ⟨g, 0, none⟩) 4 c) [(d10, d11), (b0, b1), (c10, c11), (a0, a1)] ∧ Chg (fun k => k = g) w wr)) ∨ (s2 = .int .i64 2 ∧ s3 = .int .i64 1 ∧ gk = 1 ∧ Hid (OwnP wr B (.slice (some ⟨g, 0, none⟩) 4 c) [(d10, d11), (c10, c11), (b0, b1), (a0, a1)] ∧ Chg (fun k => k = g) w wr)))
  case atStart => exact Or.inl ⟨rfl, rfl, rfl, HH.out, Chg.refl _ _⟩
  case round =>
    rcases hrel with ⟨rfl, rfl, hgk, HI⟩ | ⟨rfl, rfl, hgk, HI⟩ | ⟨rfl, rfl, hgk, HI⟩
    · have hI := HI.out.1
      obtain ⟨q0, f0⟩ := row_cell hI 0 (.int .i64 a0) rfl
      obtain ⟨q1, f1⟩ := row_cell hI 1 (.int .i64 a1) rfl
      obtain ⟨q6, f6⟩ := row_cell hI 6 (.int .i64 d10) rfl
      obtain ⟨q7, f7⟩ := row_cell hI 7 (.int .i64 d11) rfl
      have RR := Lib.hid (row_put (row_put (row_put (row_put (hI) 0 (.int .i64 d10) (by omega)) 1 (.int .i64 d11) (by omega)) 6 (.int .i64 a0) (by omega)) 7 (.int .i64 a1) (by omega))
      have CC := Lib.hid (Chg.put (Chg.put (Chg.put (Chg.put (HI.out.2) (p := ⟨g, 0, none⟩) (Or.inl rfl) (.int .i64 d10)) (p := ⟨g, 1, none⟩) (Or.inl rfl) (.int .i64 d11)) (p := ⟨g, 6, none⟩) (Or.inl rfl) (.int .i64 a0)) (p := ⟨g, 7, none⟩) (Or.inl rfl) (.int .i64 a1))
      clear hI
      go_wp2_with fail
      go_region
      all_goals
        go_wp2_with fail
        go_roundg (gk - 1)
        case rel => exact Or.inr (Or.inl ⟨rfl, rfl, by omega, OwnP.later (show OwnP _ B (.slice (some ⟨g, 0, none⟩) 4 c) [(d10, d11), (b0, b1), (c10, c11), (a0, a1)] from RR.out) ((Below.refl _ _).drew), CC.out.draw⟩)
        case measure => omega
    · have hI := HI.out.1
      obtain ⟨q2, f2⟩ := row_cell hI 2 (.int .i64 b0) rfl
      obtain ⟨q3, f3⟩ := row_cell hI 3 (.int .i64 b1) rfl
      obtain ⟨q4, f4⟩ := row_cell hI 4 (.int .i64 c10) rfl
      obtain ⟨q5, f5⟩ := row_cell hI 5 (.int .i64 c11) rfl
      have RR := Lib.hid (row_put (row_put (row_put (row_put (hI) 2 (.int .i64 c10) (by omega)) 3 (.int .i64 c11) (by omega)) 4 (.int .i64 b0) (by omega)) 5 (.int .i64 b1) (by omega))
      have CC := Lib.hid (Chg.put (Chg.put (Chg.put (Chg.put (HI.out.2) (p := ⟨g, 2, none⟩) (Or.inl rfl) (.int .i64 c10)) (p := ⟨g, 3, none⟩) (Or.inl rfl) (.int .i64 c11)) (p := ⟨g, 4, none⟩) (Or.inl rfl) (.int .i64 b0)) (p := ⟨g, 5, none⟩) (Or.inl rfl) (.int .i64 b1))
      clear hI
      go_wp2_with fail
      go_region
      all_goals
        go_wp2_with fail
        go_roundg (gk - 1)
        case rel => exact Or.inr (Or.inr (⟨rfl, rfl, by omega, OwnP.later (show OwnP _ B (.slice (some ⟨g, 0, none⟩) 4 c) [(d10, d11), (c10, c11), (b0, b1), (a0, a1)] from RR.out) ((Below.refl _ _).drew), CC.out.draw⟩))
        case measure => omega
    · go_wp2_with fail
      go_end0
      exact ⟨⟨_, rfl⟩, HI.out⟩
theorem rev_any (g n c B : Nat) (l : List (Int × Int)) (w : World) (h : OwnP w B (.slice (some ⟨g, 0, none⟩) n c) l) (hl : l.length = n) (hn : n ≤ 4) (hB : B ≤ w.heap.size) :
    Calls Try.prog 28 #[.slice (some ⟨g, 0, none⟩) n c] w fun e w' => (∃ r, e = .returned r) ∧ OwnP w' B (.slice (some ⟨g, 0, none⟩) n c) l.reverse ∧ Chg (fun k => k = g) w w' := by
  match l, hl with
  | [], hl => subst hl; exact rev_small g 0 c B [] w h rfl (by omega) hB
  | [a], hl => subst hl; exact rev_small g 1 c B [a] w h rfl (by omega) hB
  | [(a0, a1), (b0, b1)], hl => subst hl; exact rev2 g c B a0 a1 b0 b1 w h hB
  | [(a0, a1), (b0, b1), (c0, c1)], hl => subst hl; exact rev3 g c B a0 a1 b0 b1 c0 c1 w h hB
  | [(a0, a1), (b0, b1), (c0, c1), (d0, d1)], hl => subst hl; exact rev4 g c B a0 a1 b0 b1 c0 c1 d0 d1 w h hB
  | _ :: _ :: _ :: _ :: _ :: _, hl => simp at hl; omega
end Go.Proofs.Ytikceomnkkpljaa
