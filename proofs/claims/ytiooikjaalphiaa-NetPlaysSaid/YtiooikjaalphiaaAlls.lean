/-
  The walk of All. No condition beyond bytes of a length that lets them be copied.
-/
import Derived.Test.YtiooikjaalphiaaNil
namespace Go.Proofs.Ytiooikjaalphiaa
open Go.ChangeShapes Go.WideShapes Go.ChangeAt Go.RowKit
set_option linter.unusedVariables false
set_option linter.unusedSimpArgs false

/-- What a packet says. -/
def Pk.says (p : Pk) : List Int × Int := (p.bs, p.born)
def sayL (ps : List Pk) : List (List Int × Int) := ps.map Pk.says
/-- Copies, each in a block of its own. -/
def Copies (w : World) (B : Nat) (qs : List Pk) : Prop := (∀ q ∈ qs, q.lies w ∧ B ≤ q.g) ∧ qs.Pairwise (fun a b => a.g ≠ b.g)
theorem Copies.snoc {w v : World} {B : Nat} {qs : List Pk} {q : Pk} (h : Copies w B qs) (hk : ∀ p ∈ qs, p.lies v) (hq : q.lies v) (hB : B ≤ q.g) (hn : w.heap.size ≤ q.g) : Copies v B (qs ++ [q]) := by
  refine ⟨fun p hp => ?_, ?_⟩
  · rcases List.mem_append.1 hp with hp | hp
    · exact ⟨hk p hp, (h.1 p hp).2⟩
    · rw [List.mem_singleton.1 hp]; exact ⟨hq, hB⟩
  · rw [List.pairwise_append]
    refine ⟨h.2, by simp, fun a ha b hb => ?_⟩
    rw [List.mem_singleton.1 hb]
    have := Blk.lt (h.1 a ha).1
    omega
theorem of_pk (p : Pk) (w : World) (h : p.lies w) (hn : p.bs.length ≤ 140737488355328) : Calls Try.prog 21 #[.agg #[.slice (some ⟨p.g, 0, none⟩) p.bs.length p.bs.length, .int .i64 p.born]] w fun e w' => ∃ q : Pk, e = .returned (.agg #[.slice (some ⟨q.g, 0, none⟩) q.bs.length q.bs.length, .int .i64 q.born]) ∧ q.says = p.says ∧ q.lies w' ∧ w.heap.size ≤ q.g ∧ Below w.heap.size w w' := by
  refine (of_any _ _ _ p.bs p.born w h.row hn (Nat.le_refl _)).mono ?_
  rintro e w' ⟨q, rfl, h1, h2, h3, h4, h5⟩
  exact ⟨q, by rw [h1, h2], by unfold Pk.says; rw [h1, h2], h3, h4, h5⟩
set_option maxHeartbeats 1600000 in
theorem all_any {N B : Nat} {v : Value} {ps : List Pk} {lost : Int} {w : World} (h : NetIs w N B v ps lost) (hn : ps.length ≤ 500) (hb : ∀ p ∈ ps, p.bs.length ≤ 140737488355328) :
    Calls Try.prog 19 #[.pointer (some ⟨N, 0, none⟩)] w fun e w' => ∃ v' qs, e = .returned v' ∧ w'.ownsRow w.heap.size 41 2 v' qs.length (flatP qs) ∧ sayL qs = sayL ps ∧ Copies w' w.heap.size qs ∧ Below w.heap.size w w' := by
  obtain ⟨A, c, rfl⟩ := h.form
  obtain ⟨i0, hi, hz0, hz1, hz2⟩ := info_parts info41
  have HZ := Lib.hid (And.intro hi (And.intro hz0 (And.intro hz1 hz2)))
  have c1 : w.cell? ⟨N, 1, none⟩ = some (.slice A ps.length c) := h.1.cell 1
  have HN := Lib.hid h
  have HB := Lib.hid hb
  obtain ⟨n, hN⟩ : ∃ n, ps.length = n := ⟨_, rfl⟩
  have HNN := Lib.hid hN
  rw [hN] at c1 hn HN
  have HIS := Lib.hid (is_blk N true _ _ _ h.1)
  clear h hb hi hz0 hz1 hz2 hN
  go_enter Try.func19, Try.ntmps19
  go_wp2_with fail
  refine HIS.out.mono ?_; rintro e w' ⟨rfl, rfl⟩
  go_wp2_with fail
  go_loopg [3, 5, 14] (n + 1) (fun gk s3 s5 s14 wr => ∃ (i c' : Nat) (A' : Option Addr) (qs : List Pk), s3 = .slice A' i c' ∧ s14 = .int .i64 i ∧ gk + i = n + 1 ∧ i ≤ n ∧ Hid (qs.length = i ∧ sayL qs = sayL (ps.take i) ∧ wr.ownsRow w.heap.size 41 2 (.slice A' i c') i (flatP qs) ∧ Copies wr w.heap.size qs ∧ Below w.heap.size w wr))
  case atStart => exact ⟨0, 0, none, [], rfl, rfl, by omega, by omega, rfl, rfl, World.ownsRow_nil _ _ _ _, ⟨by simp, by simp⟩, Below.refl _ _⟩
  case round =>
    obtain ⟨i, c', A', qs, rfl, rfl, hgi, hin, HI⟩ := hrel
    by_cases hlt : i < n
    · have hil : i < ps.length := by have := HNN.out; omega
      obtain ⟨g, c9, hv, hc9, hBg, hg, hcr, _⟩ := HN.out.some_ (by have := HNN.out; omega)
      injection hv with hA e1 e2
      subst hA e2
      obtain ⟨x0, x1⟩ := row_cells (hcr.later HI.out.2.2.2.2) i hil
      have hpm := List.getElem_mem hil
      have hlies := ((HN.out.2.2.1 ps[i] hpm).1.later HI.out.2.2.2.2).later ((Below.refl wr.heap.size wr).alloc (Nat.le_refl _) (.cells #[.slice (some ⟨ps[i].g, 0, none⟩) ps[i].bs.length ps[i].bs.length, .int .i64 ps[i].born] 41))
      have HC := Lib.hid (of_pk ps[i] _ hlies (HB.out ps[i] hpm))
      have hsay : sayL (ps.take (i + 1)) = sayL (ps.take i) ++ [ps[i].says] := by
        unfold sayL
        rw [List.take_add_one, List.getElem?_eq_getElem hil, List.map_append]; rfl
      have HSAY := Lib.hid hsay
      generalize ps[i] = p at *
      clear hc9 hBg hg hcr hpm hlies hsay e1
      go_wp2_with fail
      refine HC.out.mono ?_; rintro e w3 ⟨q, rfl, hq1, hq2, hq3, h3⟩
      have hb3 : Below wr.heap.size wr w3 := ((Below.refl wr.heap.size wr).alloc (Nat.le_refl _) _).trans (h3.mono (by simp))
      have HB3 := Lib.hid hb3
      have HQ1 := Lib.hid hq1
      have HQ2 := Lib.hid hq2
      have HQ3 : Hid (wr.heap.size ≤ q.g) := Nat.le_trans (by simp) hq3
      have hB3s := Nat.le_trans HI.out.2.2.2.2.size hb3.size
      have HRW := Lib.hid (row_later (row_later HI.out.2.2.1 hb3) ((Below.refl w3.heap.size w3).alloc (Nat.le_refl _) (.cells #[.slice (some ⟨q.g, 0, none⟩) q.bs.length q.bs.length, .int .i64 q.born] 41)))
      clear hq1 hq2 hq3 h3 hb3
      go_wp2_with (at_builtin; refine wpList_append_own _ rfl _ _ 51 rfl w.heap.size 41 i0 _ 2 32 Try.underlying51 HZ.out.1 HZ.out.2.1 HZ.out.2.2.1 HZ.out.2.2.2 rfl (by decide) _ i (flatP qs) rfl HRW.out ⟨w3.heap.size, 0, none⟩ 1 1 [.slice (some ⟨q.g, 0, none⟩) q.bs.length q.bs.length, .int .i64 q.born] rfl rfl cells2 (one2 rfl) ?_ ?_ ?_ ?_)
      · unfold maxLen; omega
      · omega
      · simp; omega
      intro v4 w4 hown hgrow _
      obtain ⟨A4, c4, rfl⟩ := row_form hown
      have hb3a : Below wr.heap.size wr (w3.alloc (.cells #[.slice (some ⟨q.g, 0, none⟩) q.bs.length q.bs.length, .int .i64 q.born] 41)) := HB3.out.alloc HB3.out.size _
      have hb4 : Below w.heap.size w w4 := below_row (HI.out.2.2.2.2.trans (hb3a.mono HI.out.2.2.2.2.size)) (Nat.le_trans HI.out.2.2.2.2.size hb3a.size) HRW.out hgrow
      have hlie : ∀ p : Pk, p.lies (w3.alloc (.cells #[.slice (some ⟨q.g, 0, none⟩) q.bs.length q.bs.length, .int .i64 q.born] 41)) → p.lies w4 := fun p hp => by
        refine (hgrow.block p.g (Blk.lt hp) (fun e => ?_)).trans hp
        obtain ⟨ds, hd⟩ := own_row HRW.out e.symm
        exact (Blk.differ hp hd (by decide)) rfl
      have hcp : Copies w4 w.heap.size (qs ++ [q]) := HI.out.2.2.2.1.snoc (fun p hp => hlie p ((HI.out.2.2.2.1.1 p hp).1.later hb3a)) (hlie q (Blk.more HQ2.out _)) (Nat.le_trans HI.out.2.2.2.2.size HQ3.out) HQ3.out
      have HREL : Hid ((qs ++ [q]).length = i + 1 ∧ sayL (qs ++ [q]) = sayL (ps.take (i + 1)) ∧ w4.ownsRow w.heap.size 41 2 (.slice A4 (i + 1) c4) (i + 1) (flatP (qs ++ [q])) ∧ Copies w4 w.heap.size (qs ++ [q]) ∧ Below w.heap.size w w4) := by
        refine ⟨by simp [HI.out.1], ?_, ?_, hcp, hb4⟩
        · rw [HSAY.out, ← HI.out.2.1, ← HQ1.out]; simp [sayL]
        · rw [flatP_append]; exact hown
      clear hown hgrow hb3a hb4 hlie hcp
      go_wp2_with fail
      go_roundg (gk - 1)
      case rel => exact ⟨i + 1, c4, A4, qs ++ [q], rfl, by go_num, by omega, by omega, HREL.out⟩
      case measure => omega
    · obtain rfl : i = n := by omega
      go_wp2_with fail
      go_ret
      have hh := HI.out
      rw [List.take_of_length_le (by have := HNN.out; omega)] at hh
      exact ⟨_, qs, rfl, by rw [hh.1]; exact hh.2.2.1, hh.2.1, hh.2.2.2.1, hh.2.2.2.2⟩
end Go.Proofs.Ytiooikjaalphiaa
