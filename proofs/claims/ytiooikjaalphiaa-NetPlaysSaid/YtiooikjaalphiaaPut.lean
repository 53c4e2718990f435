/-
  The walk of Put. No condition beyond bytes that lie somewhere, of a length that lets them be copied.
-/
import Derived.Test.YtiooikjaalphiaaState
import Derived.Deep.AppendLies
import Derived.Deep.RegionLaw
namespace Go.Proofs.Ytiooikjaalphiaa
open Go.ChangeShapes Go.WideShapes Go.ChangeAt Go.RowKit
set_option linter.unusedVariables false
set_option linter.unusedSimpArgs false

theorem info41 : (Try.prog.info? 41).map (fun i => (i.zero, i.size, i.bytes)) = some (some (.agg #[.slice none 0 0, .int .i64 0]), 2, 32) := by kernel_rfl
/-- The blocks that a net's calls may turn. -/
def OwnN (N : Nat) (v : Value) (k : Nat) : Prop := k = N ∨ v.ownBlock = some k
theorem own_row {w : World} {B n : Nat} {v : Value} {xs : List Value} (h : w.ownsRow B 41 2 v n xs) {k : Nat} (hk : v.ownBlock = some k) : ∃ cs, Blk w k 41 cs := by
  rcases h.2 with ⟨rfl, _⟩ | ⟨g, cap, cur, rfl, _, hh, _⟩
  · simp [Value.ownBlock] at hk
  · obtain rfl : g = k := by simpa [Value.ownBlock] using hk
    exact ⟨cur, hh⟩
theorem OwnN.not {w : World} {N B n : Nat} {v u : Value} {xs : List Value} {m : Bool} {l : Int} {k : Nat} {t : TypeId} {cs : Array Value} (hN : Blk w N 53 #[.bool m, u, .int .i64 l]) (h : w.ownsRow B 41 2 v n xs) (hk : Blk w k t cs) (h1 : t ≠ 53) (h2 : t ≠ 41) : ¬ OwnN N v k := by
  rintro (rfl | e)
  · exact (hk.differ hN h1) rfl
  · obtain ⟨ds, hd⟩ := own_row h e
    exact (hk.differ hd h2) rfl
theorem NetIs.other {w v : World} {N B : Nat} {u : Value} {ps : List Pk} {l : Int} (h : NetIs w N B u ps l) (hb : Below w.heap.size w v) : NetIs v N B u ps l := by
  refine ⟨h.1.below hb h.1.lt, ⟨h.2.1.1, h.2.1.2.imp id fun ⟨g, cap, cur, h1, h2, h3, h4⟩ => ⟨g, cap, cur, h1, h2, (hb.block g (lt_of_block h3)).trans h3, h4⟩⟩, fun p hp => ⟨(h.2.2.1 p hp).1.later hb, (h.2.2.1 p hp).2⟩, h.2.2.2.1, Nat.le_trans h.2.2.2.2 hb.size⟩
theorem put_full {N B : Nat} {v : Value} {ps : List Pk} {lost : Int} {w : World} (b : Value) (i : Int) (h : NetIs w N B v ps lost) (hf : 120 ≤ ps.length) (hm : ps.length ≤ 1000) (hl : 0 ≤ lost ∧ lost ≤ 1000000) :
    Calls Try.prog 9 #[.pointer (some ⟨N, 0, none⟩), b, .int .i64 i] w fun e w' => e = .returned (.bool false) ∧ NetIs w' N B v ps (lost + 1) ∧ Chg (OwnN N v) w w' := by
  obtain ⟨A, c, rfl⟩ := h.form
  have c1 : w.cell? ⟨N, 1, none⟩ = some (.slice A ps.length c) := h.1.cell 1
  have c2 : w.cell? ⟨N, 2, none⟩ = some (.int .i64 lost) := h.1.cell 2
  have f2 := h.1.free 2
  have t1 : decide ((120 : Int) ≤ (ps.length : Int)) = true := by simp; omega
  have HH := Lib.hid h
  have hw : wrap64 (lost + 1) = lost + 1 := IntWalk.wrap64_in _ (by omega)
  clear h
  go_enter Try.func9, Try.ntmps9
  go_wp2_with fail
  refine (is_blk N true _ _ _ HH.out.1).mono ?_; rintro e w' ⟨rfl, rfl⟩
  go_wp2
  go_ret
  have hh := HH.out
  refine ⟨rfl, ⟨hh.1.put 2 _ rfl, ?_, fun p hp => ⟨Blk.away (hh.2.2.1 p hp).1 (by have := (hh.2.2.1 p hp).2; have := hh.2.2.2.1; show p.g ≠ N; omega) _, (hh.2.2.1 p hp).2⟩, hh.2.2.2.1, by simpa [World.setCell] using hh.2.2.2.2⟩, Chg.put (Chg.refl _ _) (by exact Or.inl (Or.inl rfl)) _⟩
  refine ⟨hh.2.1.1, hh.2.1.2.imp id fun ⟨g, cap, cur, h1, h2, h3, h4⟩ => ⟨g, cap, cur, h1, h2, Blk.away h3 (by have := hh.2.2.2.1; show g ≠ N; omega) _, h4⟩⟩

theorem cells2 {w : World} {t : TypeId} {x y : Value} : ∀ j u, [x, y][j]? = some u → (w.alloc (.cells #[x, y] t)).cell? ((⟨w.heap.size, 0, none⟩ : Addr).add j) = some u := by
  intro j u hj
  have h : Blk (w.alloc (.cells #[x, y] t)) w.heap.size t #[x, y] := Blk.new _ _ _
  match j, hj with
  | 0, hj => simp at hj; subst hj; rw [Addr.add_mid]; exact h.cell 0
  | 1, hj => simp at hj; subst hj; rw [Addr.add_mid]; exact h.cell 1
theorem one2 {sl : Value} {b : Int} (h : sl.oneCell' = true) : ∀ u ∈ [sl, .int .i64 b], u.oneCell' = true := by
  intro u hu
  simp at hu
  rcases hu with rfl | rfl
  · exact h
  · rfl
theorem pk_val {w : World} {A : Option Addr} {p : Pk} {n : Nat} {bs : List Int} {b : Int} (h1 : p.bs = bs) (h : BRow w A n bs) (h2 : p.born = b) : flatP [p] = [.slice (some ⟨p.g, 0, none⟩) n n, .int .i64 b] := by
  have := h.1
  subst h1 h2
  simp [flatP, Pk.val, Pk.sl, this]
/-- A net whose row has taken one more packet, ahead of the store of the row. -/
theorem NetIs.grows {w w3 : World} {N B : Nat} {v v' : Value} {ps qs : List Pk} {l : Int} {k : Nat} (h : NetIs w N B v ps l) (hq : ∀ p ∈ qs, p.lies w ∧ B ≤ p.g) (hown : w3.ownsRow B 41 2 v' k (flatP (ps ++ qs))) (hk : k = (ps ++ qs).length) (hg : w.grownBy w3 v.ownBlock) :
    Blk w3 N 53 #[.bool true, v, .int .i64 l] ∧ NetIs (w3.setCell ⟨N, 1, none⟩ v') N B v' (ps ++ qs) l ∧ Chg (OwnN N v) w (w3.setCell ⟨N, 1, none⟩ v') := by
  subst hk
  have hN : Blk w3 N 53 #[.bool true, v, .int .i64 l] := (hg.block N h.1.lt (fun e => by
    obtain ⟨cs, hc⟩ := own_row h.2.1 e.symm
    exact (hc.differ h.1 (by decide)) rfl)).trans h.1
  refine ⟨hN, ⟨hN.put 1 _ rfl, ?_, fun p hp => ?_, h.2.2.2.1, by have := hg.size; have := h.2.2.2.2; simp [World.setCell]; omega⟩, ?_⟩
  · refine ⟨hown.1, hown.2.imp id fun ⟨g, cap, cur, h1, h2, h3, h4⟩ => ⟨g, cap, cur, h1, h2, Blk.away h3 (by have := h.2.2.2.1; show g ≠ N; omega) _, h4⟩⟩
  · have hp2 : p.lies w ∧ B ≤ p.g := by
      rcases List.mem_append.1 hp with hp | hp
      · exact h.2.2.1 p hp
      · exact hq p hp
    refine ⟨Blk.away ((hg.block p.g (Blk.lt hp2.1) (fun e => ?_)).trans hp2.1) (by have := h.2.2.2.1; show p.g ≠ N; omega) _, hp2.2⟩
    obtain ⟨cs, hc⟩ := own_row h.2.1 e.symm
    exact (Blk.differ hp2.1 hc (by decide)) rfl
  · exact Chg.put ((Chg.of_grown hg).mono (fun k _ e => Or.inr e.symm)) (by exact Or.inl (Or.inl rfl)) _
set_option maxHeartbeats 1600000 in
theorem put_any {N B : Nat} {v : Value} {ps : List Pk} {lost : Int} {w : World} (A : Option Addr) (n c : Nat) (bs : List Int) (b : Int) (h : NetIs w N B v ps lost) (hf : ps.length < 120) (hr : BRow w A n bs) (hn : n ≤ 140737488355328) (hc : n ≤ c) :
    Calls Try.prog 9 #[.pointer (some ⟨N, 0, none⟩), .slice A n c, .int .i64 b] w fun e w' => ∃ v' p, e = .returned (.bool true) ∧ NetIs w' N B v' (ps ++ [p]) lost ∧ p.bs = bs ∧ p.born = b ∧ Chg (OwnN N v) w w' := by
  obtain ⟨A0, c0, rfl⟩ := h.form
  obtain ⟨i0, hi, hz0, hz1, hz2⟩ := info_parts info41
  have HZ := Lib.hid (And.intro hi (And.intro hz0 (And.intro hz1 hz2)))
  have c1 : w.cell? ⟨N, 1, none⟩ = some (.slice A0 ps.length c0) := h.1.cell 1
  have t1 : decide ((120 : Int) ≤ (ps.length : Int)) = false := by simp; omega
  have HH := Lib.hid h
  have HR := Lib.hid hr
  have hBw := h.2.2.2.2
  have hNB := h.2.2.2.1
  clear h hr hi hz0 hz1 hz2
  go_enter Try.func9, Try.ntmps9
  go_wp2_with fail
  refine (is_blk N true _ _ _ HH.out.1).mono ?_; rintro e w' ⟨rfl, rfl⟩
  go_wp2_with fail
  go_region_law
    (first
      | (go_simp; go_at_call 21; refine Calls.mono (of_any A n c bs b w.drew (show BRow w.drew A n bs from HR.out.later ((Below.refl _ _).drew)) hn hc) ?_; rintro e w1 ⟨p, rfl, hp1, hp2, hp3, hp4, h1⟩; have k1 : w1.cell? ⟨N, 1, none⟩ = some (.slice A0 ps.length c0) := (h1.cell (p := ⟨N, 1, none⟩) (show N < w.heap.size by omega)).trans c1; have H1 : Hid (Below w.heap.size w w1) := (Below.refl _ _).drew.trans h1; have hw1 : w.heap.size ≤ w1.heap.size := h1.size; have N1 : Hid (NetIs w1 N B (.slice A0 ps.length c0) ps lost) := HH.out.other H1.out; have PL := Lib.hid hp3; have k1a : (w1.alloc (.cells #[.slice (some ⟨p.g, 0, none⟩) n n, .int .i64 b] 41)).cell? ⟨N, 1, none⟩ = some (.slice A0 ps.length c0) := (((Below.refl _ w1).alloc (Nat.le_refl _) _).cell (p := ⟨N, 1, none⟩) (show N < w1.heap.size by omega)).trans k1; have HP1 := Lib.hid hp1; have HP2 := Lib.hid hp2; have HP4 : Hid (w.heap.size ≤ p.g) := hp4; have NA : Hid (NetIs (w1.alloc (.cells #[.slice (some ⟨p.g, 0, none⟩) n n, .int .i64 b] 41)) N B (.slice A0 ps.length c0) ps lost) := N1.out.other ((Below.refl _ w1).alloc (Nat.le_refl _) _); have PA : Hid (p.lies (w1.alloc (.cells #[.slice (some ⟨p.g, 0, none⟩) n n, .int .i64 b] 41))) := PL.out.later ((Below.refl _ w1).alloc (Nat.le_refl _) _); clear h1 hp1 hp2 hp3 hp4)
      | (refine step_append_lies _ rfl _ _ 51 rfl B 41 i0 _ 2 32 Try.underlying51 HZ.out.1 HZ.out.2.1 HZ.out.2.2.1 HZ.out.2.2.2 rfl (by decide) (.slice A0 ps.length c0) ps.length (flatP ps) rfl NA.out.2.1 ⟨w1.heap.size, 0, none⟩ 1 1 [.slice (some ⟨p.g, 0, none⟩) n n, .int .i64 b] rfl rfl cells2 (one2 rfl) (by omega) (by unfold maxLen; omega) (by omega) (by simp; omega) _ rfl ?_; intro g3 c3 w3 hown hgrow hblk hlt; have R := Lib.hid (NetIs.grows (qs := [p]) (v' := .slice (some ⟨g3, 0, none⟩) (ps.length + 1) c3) NA.out (fun q hq => by (rw [List.mem_singleton.1 hq]; exact ⟨PA.out, Nat.le_trans hBw HP4.out⟩)) (by (rw [flatP_append, pk_val HP1.out HR.out HP2.out]; exact hown)) (by simp) hgrow); clear hown hgrow; have k2 : w3.cell? ⟨N, 1, none⟩ = some (.slice A0 ps.length c0) := R.out.1.cell 1; have f3 := R.out.1.free 1))
  all_goals
    go_wp2
    go_ret
    have hc1 : Chg (OwnN N (.slice A0 ps.length c0)) w (w1.alloc (.cells #[.slice (some ⟨p.g, 0, none⟩) n n, .int .i64 b] 41)) := Chg.of_below (H1.out.alloc hw1 _)
    exact ⟨_, p, rfl, R.out.2.1, HP1.out, HP2.out, hc1.trans R.out.2.2 (fun k _ e => e)⟩
end Go.Proofs.Ytiooikjaalphiaa
