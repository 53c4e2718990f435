/-
  The walks of without and Take. No condition.
-/
import Derived.Test.YtiooikjaalphiaaGrow
import Derived.Deep.AppendLies
import Derived.Deep.RegionLaw
namespace Go.Proofs.Ytiooikjaalphiaa
open Go.ChangeShapes Go.WideShapes Go.ChangeAt Go.RowKit
set_option linter.unusedVariables false
set_option linter.unusedSimpArgs false

theorem results_tmp_cell {P : Program} {fn : Func} {p u : Tmp} {ty : TypeId} (h : fn.results = #[.tmp u, .cell p ty]) (tmps : Array Value) (w : World) (g : Nat) (t : TypeId) (cs : Array Value) (fr : Nat × Nat) (d : TypeDesc)
    (hp : tmps.getD p undef = .pointer (some ⟨g, 0, none⟩)) (hg : w.heap[g]? = some (.cells cs t fr))
    (hu : P.underlying ty = some d) (hd : (match d with | .struct _ | .array _ _ => true | _ => false) = true) (hi : (P.info? ty).map (·.size) = some cs.size) :
    (results fn tmps).run P w = .ok (.tuple #[tmps.getD u undef, .agg cs]) w := by
  have hp' : tmps[p]?.getD undef = .pointer (some ⟨g, 0, none⟩) := by simpa using hp
  simp [results, h, hp', asAddr, run_loadVar_row w g t ty cs fr d hg hu hd hi]
theorem results_cell_tmp' {P : Program} {fn : Func} {p u : Tmp} {ty : TypeId} (h : fn.results = #[.cell p ty, .tmp u]) (tmps : Array Value) (w : World) (g : Nat) (t : TypeId) (cs : Array Value) (fr : Nat × Nat) (d : TypeDesc)
    (hp : tmps.getD p undef = .pointer (some ⟨g, 0, none⟩)) (hg : w.heap[g]? = some (.cells cs t fr))
    (hu : P.underlying ty = some d) (hd : (match d with | .struct _ | .array _ _ => true | _ => false) = true) (hi : (P.info? ty).map (·.size) = some cs.size) :
    (results fn tmps).run P w = .ok (.tuple #[.agg cs, tmps.getD u undef]) w := by
  have hp' : tmps[p]?.getD undef = .pointer (some ⟨g, 0, none⟩) := by simpa using hp
  simp [results, h, hp', asAddr, run_loadVar_row w g t ty cs fr d hg hu hd hi]
theorem row_base {W : World} {B B' : Nat} {n : Nat} {v : Value} {xs : List Value} (h : W.ownsRow B 41 2 v n xs) (hb : B' ≤ B) : W.ownsRow B' 41 2 v n xs :=
  ⟨h.1, h.2.imp id fun ⟨g, cap, cur, h1, h2, h3⟩ => ⟨g, cap, cur, h1, Nat.le_trans hb h2, h3⟩⟩
theorem row_away {W : World} {B n : Nat} {v : Value} {xs : List Value} (h : W.ownsRow B 41 2 v n xs) (p : Addr) (x : Value) (hp : p.block < B) : (W.setCell p x).ownsRow B 41 2 v n xs :=
  ⟨h.1, h.2.imp id fun ⟨g, cap, cur, h1, h2, h3, h4⟩ => ⟨g, cap, cur, h1, h2, Blk.away h3 (by omega) x, h4⟩⟩
theorem NetIs.some_ {w : World} {N B : Nat} {v : Value} {ps : List Pk} {l : Int} (h : NetIs w N B v ps l) (hp : 0 < ps.length) : ∃ g c, v = .slice (some ⟨g, 0, none⟩) ps.length c ∧ ps.length ≤ c ∧ B ≤ g ∧ g < w.heap.size ∧ CRow w ⟨g, 0, none⟩ (flatP ps) ∧ c ≤ 9223372036854775807 := by
  rcases h.2.1.2 with ⟨_, h0⟩ | ⟨g, cap, cur, rfl, hg, hh, hcap, hmax, hsz, htk⟩
  · omega
  · have hc : CRow w ⟨g, 0, none⟩ (flatP ps) := ⟨lt_of_block hh, World.ownsRow.cells h.2.1 rfl⟩
    exact ⟨g, cap, rfl, hcap, hg, lt_of_block hh, hc, by unfold maxLen at hmax; exact hmax⟩
theorem CRow.left {w : World} {g : Nat} {ps qs : List Pk} (h : CRow w ⟨g, 0, none⟩ (flatP (ps ++ qs))) : CRow w ⟨g, 0, none⟩ (flatP ps) :=
  ⟨h.1, fun j u hj => h.2 j u (by rw [flatP_append, List.getElem?_append_left (List.getElem?_eq_some_iff.1 hj).1]; exact hj)⟩
theorem CRow.right {w : World} {g : Nat} {ps qs : List Pk} {o : Nat} (h : CRow w ⟨g, 0, none⟩ (flatP (ps ++ qs))) (ho : o = ps.length * 2) : CRow w ⟨g, o, none⟩ (flatP qs) :=
  ⟨h.1, fun j u hj => by
    subst ho
    have := h.2 (ps.length * 2 + j) u (by rw [flatP_append, List.getElem?_append_right (by rw [flatP_len]; omega), flatP_len]; simpa using hj)
    rw [Addr.add_mid] at this ⊢
    simpa using this⟩
set_option maxHeartbeats 1600000 in
theorem without_any (g c : Nat) (ps qs : List Pk) (p : Pk) (w : World) (h : CRow w ⟨g, 0, none⟩ (flatP (ps ++ p :: qs))) (hc : (ps ++ p :: qs).length ≤ c) (hc2 : c ≤ 9223372036854775807) (hn : ps.length + qs.length ≤ 500) :
    Calls Try.prog 23 #[.slice (some ⟨g, 0, none⟩) (ps ++ p :: qs).length c, .int .i64 ps.length] w fun e w' => ∃ v, e = .returned (.tuple #[v, .agg #[p.sl, .int .i64 p.born]]) ∧ w'.ownsRow w.heap.size 41 2 v (ps.length + qs.length) (flatP (ps ++ qs)) ∧ Below w.heap.size w w' := by
  have hl := h.left
  have hr0 : CRow w ⟨g, 0, none⟩ (flatP ((ps ++ [p]) ++ qs)) := by rw [List.append_assoc]; exact h
  have hr := hr0.right (o := (ps.length + 1) * 2) (by simp)
  have x0 : w.cell? ⟨g, ps.length * 2, none⟩ = some p.sl := by
    have := h.2 (ps.length * 2) p.sl (by rw [(flatP_at _ ps.length (by simp)).1]; simp)
    rw [Addr.add_mid] at this; simpa using this
  have x1 : w.cell? ⟨g, ps.length * 2 + 1, none⟩ = some (.int .i64 p.born) := by
    have := h.2 (ps.length * 2 + 1) (.int .i64 p.born) (by rw [(flatP_at _ ps.length (by simp)).2]; simp)
    rw [Addr.add_mid] at this; simpa using this
  have hlen : (ps ++ p :: qs).length = ps.length + qs.length + 1 := by simp; omega
  have HL := Lib.hid hl
  have HR := Lib.hid hr
  have hg := h.1
  rw [flatP_append]
  unfold Pk.sl at x0 ⊢
  obtain ⟨N, hN⟩ : ∃ N, (ps ++ p :: qs).length = N := ⟨_, rfl⟩
  rw [hN] at hc hlen ⊢
  obtain ⟨k, hk⟩ : ∃ k, ps.length = k := ⟨_, rfl⟩
  obtain ⟨m, hm⟩ : ∃ m, qs.length = m := ⟨_, rfl⟩
  have HK := Lib.hid hk
  have HM := Lib.hid hm
  rw [hk] at x0 x1 hlen hn HR ⊢
  rw [hm] at hlen hn ⊢
  have b1 : (0 : Int) ≤ (k : Int) := by omega
  have b2 : (k : Int) < (N : Int) := by omega
  have b3 : (k : Int) + 1 ≤ (N : Int) := by omega
  have b4 : k ≤ c := by omega
  have b5 : k + 1 ≤ c := by omega
  have b6 : k < N := by omega
  have b7 : k + 1 ≤ N := by omega
  have b12 : (0 : Int) ≤ (k : Int) + 1 := by omega
  have b13 : (k : Int) ≤ (k : Int) + (m : Int) := by omega
  have b8 : IntKind.i64.wrap ((k : Int) + 1) = (k : Int) + 1 := IntWalk.i64_in _ (by omega)
  have b9 : wrap64 ((k : Int) + 1) = (k : Int) + 1 := IntWalk.wrap64_in _ (by omega)
  clear h hr0 hl hr hN hk hm
  have HB0 : Hid (Below w.heap.size w ((w.alloc (.cells #[.slice none 0 0, .int .i64 0] 41)).alloc (.cells #[.slice (some ⟨p.g, 0, none⟩) p.bs.length p.bs.length, .int .i64 p.born] 41))) := ((Below.refl _ _).alloc (Nat.le_refl _) _).alloc (by simp) _
  have K5 : Hid (Blk ((w.alloc (.cells #[.slice none 0 0, .int .i64 0] 41)).alloc (.cells #[.slice (some ⟨p.g, 0, none⟩) p.bs.length p.bs.length, .int .i64 p.born] 41)) w.heap.size 41 #[.slice none 0 0, .int .i64 0]) := (Blk.new w 41 _).more _
  have K6 : Hid (Blk ((w.alloc (.cells #[.slice none 0 0, .int .i64 0] 41)).alloc (.cells #[.slice (some ⟨p.g, 0, none⟩) p.bs.length p.bs.length, .int .i64 p.born] 41)) (w.heap.size + 1) 41 #[.slice (some ⟨p.g, 0, none⟩) p.bs.length p.bs.length, .int .i64 p.born]) := Blk.newAt _ 41 _ _ (by simp)
  have hsz : ((w.alloc (.cells #[.slice none 0 0, .int .i64 0] 41)).alloc (.cells #[.slice (some ⟨p.g, 0, none⟩) p.bs.length p.bs.length, .int .i64 p.born] 41)).heap.size = w.heap.size + 2 := by simp
  obtain ⟨wa, hwaE⟩ : ∃ wa, (w.alloc (.cells #[.slice none 0 0, .int .i64 0] 41)).alloc (.cells #[.slice (some ⟨p.g, 0, none⟩) p.bs.length p.bs.length, .int .i64 p.born] 41) = wa := ⟨_, rfl⟩
  rw [hwaE] at HB0 K5 K6 hsz
  have HWE := Lib.hid hwaE
  have HSZ := Lib.hid (Nat.le_of_eq hsz.symm)
  clear hwaE hsz
  have z0 : wa.drew.cell? ⟨w.heap.size + 1, 0, none⟩ = some (.slice (some ⟨p.g, 0, none⟩) p.bs.length p.bs.length) := K6.out.cell 0
  have z1 : wa.drew.cell? ⟨w.heap.size + 1, 1, none⟩ = some (.int .i64 p.born) := K6.out.cell 1
  by_cases hcase : k + 1 = c
  · subst hcase
    obtain rfl : m = 0 := by omega
    have hq : qs = [] := List.eq_nil_of_length_eq_zero HM.out
    subst hq
    have b15 : (k : Int) ≤ (k : Int) + 1 := by omega
    have b16 : k ≤ k + 1 := by omega
    have HAA : Hid (CRow w ⟨g, 0, none⟩ (flatP [])) := ⟨hg, by simp [flatP]⟩
    go_enter Try.func23, Try.ntmps23
    go_upto_region 2 with fail
    rw [HWE.out]
    go_region_held3 (fun W => W.cell? ⟨w.heap.size + 1, 0, none⟩ = some (.slice (some ⟨p.g, 0, none⟩) p.bs.length p.bs.length) ∧ W.cell? ⟨w.heap.size + 1, 1, none⟩ = some (.int .i64 p.born)) (first | exact ⟨q0, q1⟩ | exact ⟨z0, z1⟩ | exact ⟨(K6.out.more _).cell 0, (K6.out.more _).cell 1⟩ | go_keep)
      (first
        | (go_at_call 27; refine Calls.mono (concat_any wa.heap.size ⟨g, 0, none⟩ ⟨g, 0, none⟩ k (k + 1) 0 0 ps [] _ (Blk.new wa 51 _) ((HL.out.later HB0.out).later (((Below.refl _ wa).alloc (Nat.le_refl _) _).drew)) ((HAA.out.later HB0.out).later (((Below.refl _ wa).alloc (Nat.le_refl _) _).drew)) HK.out HM.out hn) ?_; rintro e w3 ⟨v3, rfl, h3, h4⟩; have R3 := Lib.hid h3; have hb4 : Below (w.heap.size + 2) wa w3 := (((Below.refl _ wa).alloc HSZ.out _).drew).trans (h4.mono (Nat.le_trans HSZ.out (by simp))); have K5' := K5.out.below hb4 (by omega); have K6' := K6.out.below hb4 (by omega); have q0 : w3.cell? ⟨w.heap.size + 1, 0, none⟩ = some (.slice (some ⟨p.g, 0, none⟩) p.bs.length p.bs.length) := K6'.cell 0; have q1 : w3.cell? ⟨w.heap.size + 1, 1, none⟩ = some (.int .i64 p.born) := K6'.cell 1; have q2 : w3.cell? ⟨w.heap.size, 0, none⟩ = some (.slice none 0 0) := K5'.cell 0; have q3 : w3.cell? ⟨w.heap.size, 1, none⟩ = some (.int .i64 0) := K5'.cell 1; have q4 := K5'.free 0; have q5 := K5'.free 1; have H5 := Lib.hid K5'; have B3 : Hid (Below w.heap.size w w3) := HB0.out.trans (hb4.mono (by omega)); clear h3 h4 hb4 K5' K6'))
    all_goals
      go_wp2_with fail
      refine bodyPost_ret (results_tmp_cell rfl _ _ w.heap.size 41 _ _ _ rfl ((H5.out.put 0 (.slice (some ⟨p.g, 0, none⟩) p.bs.length p.bs.length) rfl).put 1 (.int .i64 p.born) rfl) Try.underlying41 rfl size41) rfl ?_
      exact ⟨_, rfl, row_base (row_away (row_away R3.out _ _ (by (have := HSZ.out; simp; omega))) _ _ (by (have := HSZ.out; simp; omega))) (by (have := HSZ.out; simp; omega)), (B3.out.setCell (Nat.le_refl _) _).setCell (Nat.le_refl _) _⟩
  · have b10 : k + 1 < c := by omega
    have b11 : ¬ k + 1 = c := hcase
    have b14 : ¬ c = k + 1 := by omega
    have HAA := Lib.hid HR.out
    go_enter Try.func23, Try.ntmps23
    go_upto_region 2 with fail
    rw [HWE.out]
    go_region_held3 (fun W => W.cell? ⟨w.heap.size + 1, 0, none⟩ = some (.slice (some ⟨p.g, 0, none⟩) p.bs.length p.bs.length) ∧ W.cell? ⟨w.heap.size + 1, 1, none⟩ = some (.int .i64 p.born)) (first | exact ⟨q0, q1⟩ | exact ⟨z0, z1⟩ | exact ⟨(K6.out.more _).cell 0, (K6.out.more _).cell 1⟩ | go_keep)
      (first
        | (go_at_call 27; refine Calls.mono (concat_any wa.heap.size ⟨g, 0, none⟩ ⟨g, (k + 1) * 2, none⟩ k c m (c - (k + 1)) ps qs _ (Blk.new wa 51 _) ((HL.out.later HB0.out).later (((Below.refl _ wa).alloc (Nat.le_refl _) _).drew)) ((HAA.out.later HB0.out).later (((Below.refl _ wa).alloc (Nat.le_refl _) _).drew)) HK.out HM.out hn) ?_; rintro e w3 ⟨v3, rfl, h3, h4⟩; have R3 := Lib.hid h3; have hb4 : Below (w.heap.size + 2) wa w3 := (((Below.refl _ wa).alloc HSZ.out _).drew).trans (h4.mono (Nat.le_trans HSZ.out (by simp))); have K5' := K5.out.below hb4 (by omega); have K6' := K6.out.below hb4 (by omega); have q0 : w3.cell? ⟨w.heap.size + 1, 0, none⟩ = some (.slice (some ⟨p.g, 0, none⟩) p.bs.length p.bs.length) := K6'.cell 0; have q1 : w3.cell? ⟨w.heap.size + 1, 1, none⟩ = some (.int .i64 p.born) := K6'.cell 1; have q2 : w3.cell? ⟨w.heap.size, 0, none⟩ = some (.slice none 0 0) := K5'.cell 0; have q3 : w3.cell? ⟨w.heap.size, 1, none⟩ = some (.int .i64 0) := K5'.cell 1; have q4 := K5'.free 0; have q5 := K5'.free 1; have H5 := Lib.hid K5'; have B3 : Hid (Below w.heap.size w w3) := HB0.out.trans (hb4.mono (by omega)); clear h3 h4 hb4 K5' K6'))
    all_goals
      go_wp2_with fail
      refine bodyPost_ret (results_tmp_cell rfl _ _ w.heap.size 41 _ _ _ rfl ((H5.out.put 0 (.slice (some ⟨p.g, 0, none⟩) p.bs.length p.bs.length) rfl).put 1 (.int .i64 p.born) rfl) Try.underlying41 rfl size41) rfl ?_
      exact ⟨_, rfl, row_base (row_away (row_away R3.out _ _ (by (have := HSZ.out; simp; omega))) _ _ (by (have := HSZ.out; simp; omega))) (by (have := HSZ.out; simp; omega)), (B3.out.setCell (Nat.le_refl _) _).setCell (Nat.le_refl _) _⟩
end Go.Proofs.Ytiooikjaalphiaa
