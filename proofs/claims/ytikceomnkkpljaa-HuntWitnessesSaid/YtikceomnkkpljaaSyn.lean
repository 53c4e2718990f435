/-
  The walk of hunt.Syn. No condition beyond what may be.
-/
import Derived.Test.YtikceomnkkpljaaLoop
namespace Go.Proofs.Ytikceomnkkpljaa
open Go.ChangeShapes Go.WideShapes Go.ChangeAt Go.RowKit Go.Shelf
set_option linter.unusedVariables false
set_option linter.unusedSimpArgs false
attribute [local go_sem] Oper.semAt_some

def u32w (x : Int) : Int := IntKind.u32.wrap x
theorem u32w_rng (x : Int) : 0 ≤ u32w x ∧ u32w x ≤ 4294967295 := by unfold u32w; rw [IntKind.wrap_u32]; omega
/-- Where a first segment goes. -/
def synL (ps : List (Int × Int)) (a : Int) : List Seg :=
  let p := newest ps
  if p.1 = 0 then [] else segL 1 a (nodesL (flatN (lastL ps).dropLast)) ++ (if p.2 = 0 then [(p.1, 3, a)] else [(p.1, 2, a), (p.2, 3, a)])
theorem syn_none (A : Option Addr) (n c : Nat) (ps : List (Int × Int)) (x : Int) (w : World) (h : PRow w A ps) (hn : ps.length = n) (hm : n ≤ 1000000) (h0 : (newest ps).1 = 0) :
    Calls Try.prog 10 #[.slice A n c, .int .i64 x] w fun e w' => e = .returned (.slice none 0 0) ∧ Below w.heap.size w w' := by
  have HN := newest_any A n c ps w h hn hm
  rw [h0] at HN
  have HH := Lib.hid HN
  clear HN h hn h0
  refine (callsIn_wide (n := 4)).1 ?_
  refine callsIn_of_wp_marks Try.func10 rfl trivial ?_ rfl
  simp only [Try.ntmps10, List.size_toArray, List.length_cons, List.length_nil, Nat.reduceAdd, Nat.reduceSub, Array.replicate_succ, Array.replicate_zero, List.push_toArray, List.append_toArray, List.nil_append, List.cons_append]
  refine (wpIn_wide).2 ?_
  go_wp2_with fail
  refine HH.out.mono ?_; rintro e w1 ⟨rfl, h1⟩
  have H1 := Lib.hid h1
  clear h1
  go_wp2_with fail
  exact ⟨_, results_tmp rfl _ _ _, rfl, H1.out⟩
theorem newest_ok {ps : List (Int × Int)} {f s : Int} (h : newest ps = (f, s)) (hf : ¬ f = 0) : isN f = true ∧ (¬ s = 0 → isN s = true) := by
  unfold newest at h
  split at h
  · injection h with h1 h2
    exact absurd h1.symm hf
  · rename_i p hp
    by_cases ha : isN p.1 = true
    · rw [if_pos ha] at h
      by_cases hb : isN p.2 = true
      · rw [if_pos hb] at h
        subst h
        exact ⟨ha, fun _ => hb⟩
      · rw [if_neg hb] at h
        injection h with h1 h2
        subst h1 h2
        exact ⟨ha, fun e => absurd rfl e⟩
    · rw [if_neg ha] at h
      injection h with h1 h2
      exact absurd h1.symm hf
/-- What holds between two rounds. -/
def LoopI (w : World) (X B d : Nat) (a : Int) (pre : List Node) (W : World) : Prop := (∃ v, ListIs W X B a v (segsOf d a pre)) ∧ Blk W (X + 1) 45 #[.pointer (some ⟨X, 0, none⟩)] ∧ Below w.heap.size w W
theorem LoopI.own {w : World} {X B d N : Nat} {a : Int} (hN : w.heap.size ≤ N) (hB : w.heap.size ≤ B) : OwnFrom N (LoopI w X B d a) := by
  rintro pre W W' row ⟨⟨v, h1⟩, h2, h3⟩ hg hr
  exact ⟨⟨v, h1.kept hg (fun r e => (hr r e).2)⟩, cells_kept h2 hg (fun r e => (hr r e).2), h3.grown hg (Nat.le_trans hB h1.le) (fun k e => Nat.le_trans hN (hr k e).1)⟩
set_option maxRecDepth 100000 in
set_option maxHeartbeats 3200000 in
theorem syn_some (A : Option Addr) (n c : Nat) (ps : List (Int × Int)) (x : Int) (w : World) (h : PRow w A ps) (hn : ps.length = n) (hm : n ≤ 1000000) (hc : n ≤ c) (hc2 : c ≤ 9223372036854775807) (hw : ∀ p ∈ ps, wfi p.1 ∧ wfi p.2) (h0 : ¬ (newest ps).1 = 0) :
    Calls Try.prog 10 #[.slice A n c, .int .i64 x] w fun e w' => ∃ v, e = .returned v ∧ OwnA w' w.heap.size v (synL ps (u32w x)) ∧ Below w.heap.size w w' := by
  have HN := Lib.hid (newest_any A n c ps w h hn hm)
  have t0 : ((newest ps).1 == 0) = false := by simpa using h0
  obtain ⟨f, s, hfs⟩ : ∃ f s, newest ps = (f, s) := ⟨_, _, rfl⟩
  have HFS := Lib.hid hfs
  rw [hfs] at HN t0
  simp only at t0
  have hx := u32w_rng x
  obtain ⟨a, ha⟩ : ∃ a, IntKind.u32.wrap x = a := ⟨_, rfl⟩
  have HP := Lib.hid h
  have HW := Lib.hid hw
  have HL := Lib.hid hn
  clear h hw hn h0 hfs
  refine (callsIn_wide (n := 4)).1 ?_
  refine callsIn_of_wp_marks Try.func10 rfl trivial ?_ rfl
  simp only [Try.ntmps10, List.size_toArray, List.length_cons, List.length_nil, Nat.reduceAdd, Nat.reduceSub, Array.replicate_succ, Array.replicate_zero, List.push_toArray, List.append_toArray, List.nil_append, List.cons_append]
  refine (wpIn_wide).2 ?_
  go_wp2_with fail
  refine HN.out.mono ?_; rintro e w1 ⟨rfl, h1⟩
  have H1 := Lib.hid h1
  clear h1
  go_wp2_with fail
  refine (kept_any A n c ps w1 (HP.out.later H1.out) HL.out hm hc hc2).mono ?_
  rintro e w2 ⟨A', n', c', rfl, k1, k2, k3, k4, rfl⟩
  have hne : 0 < (lastL ps).length := by
    have hp : 0 < ps.length := by
      rcases Nat.eq_zero_or_pos ps.length with h | h
      · have hnil := List.eq_nil_of_length_eq_zero h
        have := HFS.out
        rw [hnil] at this
        injection this with e1 e2
        subst e1
        simp at t0
      · exact h
    unfold lastL
    simp
    omega
  obtain ⟨qs, p, hq⟩ := snoc_of (lastL ps) hne
  obtain ⟨m, rfl⟩ : ∃ m, n' = m + 1 := ⟨n' - 1, by omega⟩
  have hqm : qs.length = m := by rw [hq] at k1; simp at k1; exact k1
  have hm3 : m ≤ 3 := by
    have : (lastL ps).length ≤ 4 := by unfold lastL; simp; omega
    omega
  have HQW : Hid (∀ p ∈ qs, wfi p.1 ∧ wfi p.2) := fun p hp => HW.out p (by
    have : p ∈ lastL ps := by rw [hq]; simp [hp]
    unfold lastL at this
    exact List.mem_of_mem_drop this)
  rw [hq] at k4
  have K4 := Lib.hid k4
  have HQ := Lib.hid hq
  have HQM := Lib.hid hqm
  have b1 : (0 : Int) ≤ (m : Int) := Int.natCast_nonneg m
  have b2 : (m : Int) ≤ (c' : Int) := by omega
  clear k1 k4 hq hqm hne
  go_wp2_with fail
  refine (each_any A' m c' _).mono ?_; rintro e w' ⟨rfl, rfl⟩
  go_wp2_with fail
  obtain ⟨X, hX⟩ : ∃ X, w1.heap.size = X := ⟨_, rfl⟩
  have hwX : w.heap.size ≤ X := hX ▸ H1.out.size
  obtain ⟨g, o, rfl, hg, hpc⟩ := K4.out (by simp)
  have hgX : g < X := by omega
  have B0 : Below w1.heap.size w1 (((w1.alloc (.cells #[.int .u32 a, .slice none 0 0] 47)).alloc (.cells #[.pointer (some ⟨w1.heap.size, 0, none⟩)] 45)).alloc (.cells #[.slice (some ⟨g, o, none⟩) m c'] 22)) := (((Below.refl _ _).alloc (Nat.le_refl _) _).alloc (by simp) _).alloc (by simp; omega) _
  have E0 : Hid (Blk (((w1.alloc (.cells #[.int .u32 a, .slice none 0 0] 47)).alloc (.cells #[.pointer (some ⟨w1.heap.size, 0, none⟩)] 45)).alloc (.cells #[.slice (some ⟨g, o, none⟩) m c'] 22)) w1.heap.size 47 #[.int .u32 a, .slice none 0 0]) := ((Blk.new w1 47 _).more _).more _
  have E1 : Hid (Blk (((w1.alloc (.cells #[.int .u32 a, .slice none 0 0] 47)).alloc (.cells #[.pointer (some ⟨w1.heap.size, 0, none⟩)] 45)).alloc (.cells #[.slice (some ⟨g, o, none⟩) m c'] 22)) (w1.heap.size + 1) 45 #[.pointer (some ⟨w1.heap.size, 0, none⟩)]) := (Blk.newAt _ 45 _ _ (by simp)).more _
  have E2 : Hid (Blk (((w1.alloc (.cells #[.int .u32 a, .slice none 0 0] 47)).alloc (.cells #[.pointer (some ⟨w1.heap.size, 0, none⟩)] 45)).alloc (.cells #[.slice (some ⟨g, o, none⟩) m c'] 22)) (w1.heap.size + 2) 22 #[.slice (some ⟨g, o, none⟩) m c']) := Blk.newAt _ 22 _ _ (by simp)
  have E3 : Hid ((((w1.alloc (.cells #[.int .u32 a, .slice none 0 0] 47)).alloc (.cells #[.pointer (some ⟨w1.heap.size, 0, none⟩)] 45)).alloc (.cells #[.slice (some ⟨g, o, none⟩) m c'] 22)).heap.size = w1.heap.size + 3) := by unfold Hid; simp
  obtain ⟨wc, hwc⟩ : ∃ wc, (((w1.alloc (.cells #[.int .u32 a, .slice none 0 0] 47)).alloc (.cells #[.pointer (some ⟨w1.heap.size, 0, none⟩)] 45)).alloc (.cells #[.slice (some ⟨g, o, none⟩) m c'] 22)) = wc := ⟨_, rfl⟩
  rw [hwc] at B0 E0 E1 E2 E3 ⊢
  have HP2 : Hid (PCells wc g o qs) := fun i hi => by
    have h := hpc i (by simp; omega)
    rw [List.getElem_append_left hi] at h
    exact ⟨(B0.cell (p := ⟨g, _, none⟩) hg).trans h.1, (B0.cell (p := ⟨g, _, none⟩) hg).trans h.2⟩
  have HB : Hid (Below w.heap.size w wc) := H1.out.trans (B0.mono H1.out.size)
  rw [hX] at E0 E1 E2 E3 ⊢
  have E4 : Hid (wc.heap.size = X + 3) := E3
  have L0 : Hid (ListIs wc X (X + 3) a (.slice none 0 0) []) := ⟨E0.out, OwnA.nil _ _, by omega, by rw [E4.out]; exact Nat.le_refl _⟩
  have hok := newest_ok HFS.out (by simpa using t0)
  have HOK := Lib.hid hok
  clear hpc K4 B0 hX hwc hg hok
  refine (wpIn_wide (n := 4)).1 ?_
  refine wpIn_rangeFunc_ownG rfl (by omega) (gf := 32) (lb := #[.pointer (some ⟨X + 1 + 1, 0, none⟩)]) rfl trivial (enters_of Try.func32 (by kernel_rfl) rfl)
    (each_stops 3 (X + 2) g o m c' (some ⟨g, o, none⟩) qs wc (by omega) (by rw [E4.out]; omega) (fun _ => ⟨rfl, by rw [E4.out]; omega, HP2.out⟩) HQM.out (by omega) HQW.out ((E2.out.cell 0).trans rfl)) KpG.trans (fun W l o o' hl hh hc hw => KpG.put (show g < wc.heap.size by rw [E4.out]; omega) W l o o' hl hh hc hw) (Below.refl _ _) (fun _ => rfl)
    (LoopI w X (X + 3) 1 a) (fun _ _ _ => False) (LoopI.own HB.out.size (by omega)) (fun _ _ _ _ _ hs _ _ => hs)
    ⟨⟨_, L0.out⟩, E1.out, HB.out⟩
    (fun z => { tmps := #[.slice (some ⟨g, o, none⟩) (m + 1) c', .int .i64 x, undef, undef, .slice none 0 0, .int .i64 f, .int .i64 s, .pointer (some ⟨X + 1, 0, none⟩), .int .i64 z.1, .tuple #[.int .i64 f, .int .i64 s], .slice A n c, .tuple #[.int .i64 f, .int .i64 s], .int .i64 f, .int .i64 s, .int .i64 f, .bool false, .slice A n c, .slice (some ⟨g, o, none⟩) (m + 1) c', .int .i64 x, .int .u32 a, .agg #[.int .u32 a, .slice none 0 0], .pointer (some ⟨X, 0, none⟩), .slice (some ⟨g, o, none⟩) (m + 1) c', .slice (some ⟨g, o, none⟩) (m + 1) c', .int .i64 (↑m + 1), .int .i64 ↑m, .slice (some ⟨g, o, none⟩) m c', .func (.func 32) #[] #[.pointer (some ⟨X + 1 + 1, 0, none⟩)], .int .i64 z.1, undef, undef, undef, undef, undef, undef, undef, undef, undef, undef, undef, undef, undef, undef, undef, undef, undef, undef, undef, undef, undef, undef], defers := [] }) ?assign ?body ?done ?stop
  case assign =>
    intro l z W KK hKK
    gi_wp2
    exact hKK
  case body =>
    rintro l pre z W ⟨⟨v, hL⟩, hbox, hB⟩ hlt
    have hcell : W.cell? ⟨X + 1, 0, none⟩ = some (.pointer (some ⟨X, 0, none⟩)) := (hbox.cell 0).trans rfl
    have hz := isN_ok z.2
    have HA := Lib.hid (add_any X (X + 3) a z.1 1 v (segsOf 1 a pre) W hL (by rw [segsOf_len]; omega) (by omega) (by omega) (by rw [← ha]; exact hx))
    gi_wp2_with (first
      | (refine And.intro trivial ?_; gi_at_call 23; refine (CallsIn.inRound l (callsIn_wide.2 HA.out)).mono ?_; rintro e W' ⟨⟨r, rfl⟩, v', h1, h2⟩)
      | fail)
    refine ⟨(hL.others h2).from _, hL.kpG h2 (by omega) (by have := hL.le; omega), ⟨v', ?_⟩, ?_, hL.below h2 hB (by omega) (by have := hL.le; omega)⟩
    · rw [segsOf_snoc]; exact h1
    · exact hbox.kept h2 (fun e => by
        rcases e with e | e
        · omega
        · obtain ⟨cs, hcs⟩ := hL.row.type e
          exact (hbox.differ hcs (by decide)) rfl)
  case done =>
    rintro D ys W hD hS ⟨⟨v, hL⟩, hbox, hB⟩ hK
    have hyl : ys.length ≤ 8 := by
      have h1 := nodesL_len (flatN qs)
      have h2 : (vals ys).length = ys.length := by simp [vals]
      rw [hS] at h2
      have h3 := flatN_len qs
      have h4 := HQM.out
      omega
    have hf := isN_ok HOK.out.1
    have hcell : W.cell? ⟨X + 1, 0, none⟩ = some (.pointer (some ⟨X, 0, none⟩)) := (hbox.cell 0).trans rfl
    have ha2 : 0 ≤ a ∧ a ≤ 4294967295 := by rw [← ha]; exact hx
    have HD : Hid (w.heap.size ≤ D) := Nat.le_trans (Nat.le_trans HB.out.size (Nat.le_refl _)) hD
    have HYL := Lib.hid hyl
    have HHL := Lib.hid hL
    have HKD := Lib.hid hK
    have HBX := Lib.hid hbox
    have HBB := Lib.hid hB
    have HS2 : Hid (segsOf 1 a ys = segL 1 a (nodesL (flatN (lastL ps).dropLast))) := by
      unfold Hid
      rw [segsOf_vals, hS, HQ.out, List.dropLast_concat]
    have HBK : Hid (∀ (u : Value) (ls : List Seg) (W1 W2 : World), ListIs W1 X (X + 3) a u ls → Chg (OwnL X u) W1 W2 → Blk W1 (X + 1) 45 #[.pointer (some ⟨X, 0, none⟩)] → Blk W2 (X + 1) 45 #[.pointer (some ⟨X, 0, none⟩)]) := fun u ls W1 W2 h1 h2 h3 => h3.kept h2 (fun e => by
      rcases e with e | e
      · omega
      · obtain ⟨cs, hcs⟩ := h1.row.type e
        exact (h3.differ hcs (by decide)) rfl)
    clear hL hK hbox hB hyl hS
    by_cases hs0 : s = 0
    · have ts : (s == 0) = true := by simpa using hs0
      have HA := Lib.hid (add_any X (X + 3) a f 3 v (segsOf 1 a ys) W HHL.out (by rw [segsOf_len]; have := HYL.out; omega) (by omega) (by omega) ha2)
      have HSZ := Lib.hid hs0
      clear hs0
      go_wp2_with fail
      refine HA.out.mono ?_; rintro e W2 ⟨⟨r, rfl⟩, v2, h1, h2⟩
      have L2 := Lib.hid h1
      have hc2' : W2.cell? ⟨X + 1, 0, none⟩ = some (.pointer (some ⟨X, 0, none⟩)) := ((HBK.out _ _ _ _ HHL.out h2 HBX.out).cell 0).trans rfl
      have hx1 : W2.cell? ⟨X, 1, none⟩ = some v2 := (h1.blk.cell 1).trans rfl
      have K2 : Hid (W2.heap[D]? = some (.deferred (some []))) := (HHL.out.others h2).same D _ HKD.out rfl
      have B2 : Hid (Below w.heap.size w W2) := HHL.out.below h2 HBB.out (by omega) (by have := HHL.out.le; omega)
      clear h1 h2 hcell
      go_wp2_with fail
      refine ⟨by simp, .inl ⟨_, _, rfl, run_takeDeferred K2.out, ?_⟩⟩
      refine ⟨_, results_tmp rfl _ _ _, v2, rfl, ?_, B2.out.trans (belowK_b (w := w) (Nat.le_refl _) W2 D _ _ HD.out K2.out rfl rfl)⟩
      have he : synL ps (u32w x) = segsOf 1 a ys ++ [(f, 3, a)] := by
        unfold synL
        rw [HFS.out, HS2.out, show u32w x = a from ha]
        simp only
        rw [if_neg (by simpa using t0), if_pos HSZ.out]
      rw [he]
      exact OwnA.base (ownsRow_putObj L2.out.row _ K2.out rfl) (by omega)
    · have ts : (s == 0) = false := by simpa using hs0
      have hsn := isN_ok (HOK.out.2 hs0)
      have HA := Lib.hid (add_any X (X + 3) a f 2 v (segsOf 1 a ys) W HHL.out (by rw [segsOf_len]; have := HYL.out; omega) (by omega) (by omega) ha2)
      have HSZ := Lib.hid hs0
      clear hs0
      go_wp2_with fail
      refine HA.out.mono ?_; rintro e W2 ⟨⟨r, rfl⟩, v2, h1, h2⟩
      have L2 := Lib.hid h1
      have bx2 := HBK.out _ _ _ _ HHL.out h2 HBX.out
      have hc2' : W2.cell? ⟨X + 1, 0, none⟩ = some (.pointer (some ⟨X, 0, none⟩)) := (bx2.cell 0).trans rfl
      have K2 : Hid (W2.heap[D]? = some (.deferred (some []))) := (HHL.out.others h2).same D _ HKD.out rfl
      have B2 : Hid (Below w.heap.size w W2) := HHL.out.below h2 HBB.out (by omega) (by have := HHL.out.le; omega)
      have HA2 := Lib.hid (add_any X (X + 3) a s 3 v2 (segsOf 1 a ys ++ [(f, 2, a)]) W2 h1 (by rw [List.length_append, segsOf_len]; have := HYL.out; simp; omega) (by omega) (by omega) ha2)
      have BX2 := Lib.hid bx2
      clear h1 h2 hcell bx2 HA
      go_wp2_with fail
      refine HA2.out.mono ?_; rintro e W3 ⟨⟨r, rfl⟩, v3, h1, h2⟩
      have L3 := Lib.hid h1
      have hc3' : W3.cell? ⟨X + 1, 0, none⟩ = some (.pointer (some ⟨X, 0, none⟩)) := ((HBK.out _ _ _ _ L2.out h2 BX2.out).cell 0).trans rfl
      have hx1 : W3.cell? ⟨X, 1, none⟩ = some v3 := (h1.blk.cell 1).trans rfl
      have K3 : Hid (W3.heap[D]? = some (.deferred (some []))) := (L2.out.others h2).same D _ K2.out rfl
      have B3 : Hid (Below w.heap.size w W3) := L2.out.below h2 B2.out (by omega) (by have := L2.out.le; omega)
      clear h1 h2 hc2' HA2
      go_wp2_with fail
      refine ⟨by simp, .inl ⟨_, _, rfl, run_takeDeferred K3.out, ?_⟩⟩
      refine ⟨_, results_tmp rfl _ _ _, v3, rfl, ?_, B3.out.trans (belowK_b (w := w) (Nat.le_refl _) W3 D _ _ HD.out K3.out rfl rfl)⟩
      have he : synL ps (u32w x) = segsOf 1 a ys ++ [(f, 2, a)] ++ [(s, 3, a)] := by
        unfold synL
        rw [HFS.out, HS2.out, show u32w x = a from ha]
        simp only
        rw [if_neg (by simpa using t0), if_neg HSZ.out]
        simp
      rw [he]
      exact OwnA.base (ownsRow_putObj L3.out.row _ K3.out rfl) (by omega)
  case stop =>
    rintro D c pre W _ _ h _
    exact h.elim
end Go.Proofs.Ytikceomnkkpljaa
