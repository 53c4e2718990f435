/-
  The document's net: the walks of At, Take, Double. No condition.
-/
import Derived.Test.YtiooikjaalphiaaRefPut
namespace Go.Proofs.Ytiooikjaalphiaa
open Go.ChangeShapes Go.WideShapes Go.ChangeAt Go.RowKit
set_option linter.unusedVariables false
set_option linter.unusedSimpArgs false

theorem results_cell_cell_tmp {P : Program} {fn : Func} {p q u : Tmp} {ty uy : TypeId} (h : fn.results = #[.cell p ty, .cell q uy, .tmp u]) (tmps : Array Value) (w : World) (g g2 : Nat) (t t2 : TypeId) (cs cs2 : Array Value) (fr fr2 : Nat × Nat) (d d2 : TypeDesc)
    (hp : tmps.getD p undef = .pointer (some ⟨g, 0, none⟩)) (hg : w.heap[g]? = some (.cells cs t fr))
    (hp2 : tmps.getD q undef = .pointer (some ⟨g2, 0, none⟩)) (hg2 : w.heap[g2]? = some (.cells cs2 t2 fr2))
    (hu : P.underlying ty = some d) (hd : (match d with | .struct _ | .array _ _ => true | _ => false) = true) (hi : (P.info? ty).map (·.size) = some cs.size)
    (hu2 : P.underlying uy = some d2) (hd2 : (match d2 with | .struct _ | .array _ _ => true | _ => false) = true) (hi2 : (P.info? uy).map (·.size) = some cs2.size) :
    (results fn tmps).run P w = .ok (.tuple #[.agg cs, .agg cs2, tmps.getD u undef]) w := by
  have hp' : tmps[p]?.getD undef = .pointer (some ⟨g, 0, none⟩) := by simpa using hp
  have hp2' : tmps[q]?.getD undef = .pointer (some ⟨g2, 0, none⟩) := by simpa using hp2
  simp [results, h, hp', hp2', asAddr, run_loadVar_row w g t ty cs fr d hg hu hd hi, run_loadVar_row w g2 t2 uy cs2 fr2 d2 hg2 hu2 hd2 hi2]
theorem succ_i64 (k : Nat) (h : k < 1000000) : IntKind.i64.wrap ((k : Int) + 1) = (k : Int) + 1 := IntWalk.i64_in _ (by omega)
theorem succ_w64 (k : Nat) (h : k < 1000000) : wrap64 ((k : Int) + 1) = (k : Int) + 1 := IntWalk.wrap64_in _ (by omega)
theorem refAt_any (A : Option Addr) (c n : Nat) (lost i : Int) (w : World) (hi : -9223372036854775808 ≤ i ∧ i ≤ 9223372036854775807) (hm : 1 ≤ n) (hm2 : n ≤ 1000) :
    Calls Try.prog 22 #[.agg #[.slice A n c, .int .i64 lost], .int .i64 i] w fun e w' => e = .returned (.int .i64 (i % n)) ∧ Below w.heap.size w w' := by
  have HR := Lib.hid (rnd_tmod i n)
  have HI := Lib.hid (rnd_tmod i n)
  have h1 : -(n : Int) < i.tmod n := by
    have := Int.tmod_lt_of_pos (-i) (show (0 : Int) < n by omega)
    rw [Int.neg_tmod] at this
    omega
  have h2 : i.tmod n < n := Int.tmod_lt_of_pos i (by omega)
  obtain ⟨q, hq⟩ : ∃ q, i.tmod n = q := ⟨_, rfl⟩
  have e1 : i.tmod (n : Int) = q := hq
  have e2 : wrap64 q = q := IntWalk.wrap64_in _ (by omega)
  have e3 : wrap64 (q + (n : Int)) = q + n := IntWalk.wrap64_in _ (by omega)
  have e0 : ((n : Int) == 0) = false := by simp; omega
  have e0n : ¬ n = 0 := by omega
  have HQ := Lib.hid hq
  rw [hq] at h1 h2
  have HP : Hid (0 ≤ q → q = i % n) := fun h => by
    have := HR.out; rw [HQ.out] at this
    rw [← this, Int.add_emod_right]
    exact (Int.emod_eq_of_lt h h2).symm
  have HM : Hid (q < 0 → q + n = i % n) := fun h => by
    have := HR.out; rw [HQ.out] at this
    rw [← this]
    exact (Int.emod_eq_of_lt (by omega) (by omega)).symm
  clear hq hi
  by_cases hs : q < 0
  · have t1 : decide (q < 0) = true := by simpa using hs
    go_enter Try.func22, Try.ntmps22
    go_wp2
    go_ret
    exact ⟨ret_int (HM.out hs), (Below.refl _ _).alloc (Nat.le_refl _) _⟩
  · have t1 : decide (q < 0) = false := by simpa using hs
    go_enter Try.func22, Try.ntmps22
    go_wp2
    go_ret
    exact ⟨ret_int (HP.out (by omega)), (Below.refl _ _).alloc (Nat.le_refl _) _⟩
theorem refTake_zero (c : Nat) (A : Option Addr) (lost i : Int) (w : World) : Calls Try.prog 10 #[.agg #[.slice A 0 c, .int .i64 lost], .int .i64 i] w fun e w' => e = .returned (.tuple #[.agg #[.slice A 0 c, .int .i64 lost], .agg #[.string (strOfNums []), .int .i64 0], .bool false]) ∧ Below w.heap.size w w' := by
  go_enter Try.func10, Try.ntmps10
  go_wp2_with fail
  refine bodyPost_ret (results_cell_cell_tmp rfl _ _ (w.heap.size + 1) (w.heap.size + 1 + 1) 27 36 #[.slice A 0 c, .int .i64 lost] #[.string ByteArray.empty, .int .i64 0] (0, 0) (0, 0) _ _ rfl ?_ rfl ?_ Try.underlying27 rfl size27 Try.underlying36 rfl size36) rfl ?_
  · exact (Blk.newAt _ 27 _ _ (by simp)).more _
  · exact Blk.newAt _ 36 _ _ (by simp)
  · exact ⟨rfl, (((Below.refl _ _).alloc (Nat.le_refl _) _).alloc (by simp) _).alloc (by simp; omega) _⟩
theorem wpList_ref_join {ops : Array Oper} {rest : List Oper} {o : Oper} {a : Act} {Q : Exit → Act → World → Prop} (w : World) (hgd : o.guard = none) (s x : Operand)
    (ho : o.op = .call { callee := .builtin .append, args := #[s, x], argTypes := #[25, 25] }) (hty : o.type = 25) (vs vx : Value) (hs : a.eval s = vs) (hx : a.eval x = vx) (B : Nat) (rl sl : List (List Int × Int)) (hr : RefIs w B vs rl) (hsr : RSrc w vx sl) (k : Nat) (hk : rl.length + sl.length = k) (hB : B ≤ w.heap.size) (hn : k ≤ 1000) (w0 : World) (hb0 : Below B w0 w)
    (h : ∀ A c w', RefIs w' B (.slice A k c) (rl ++ sl) → Below B w0 w' → wpList Try.prog ops Q rest (a.put o.dst (.slice A k c)) w') : wpList Try.prog ops Q (o :: rest) a w := by
  subst hk
  exact wpList_ref_append w hgd s x ho hty vs vx hs hx B rl sl hr hsr hB hn w0 hb0 (fun A c w' h1 h2 _ => h A c w' h1 h2)
theorem src_part {w : World} {g c : Nat} {ps sl qs : List (List Int × Int)} (h : g < w.heap.size ∧ ∀ j u, (flatR (ps ++ sl ++ qs))[j]? = some u → w.cell? ⟨g, j, none⟩ = some u) (o k : Nat) (ho : o = ps.length * 2) (hk : sl.length = k) : RSrc w (.slice (some ⟨g, o, none⟩) k c) sl := by
  subst ho hk
  refine Or.inr ⟨_, _, rfl, h.1, fun j u hj => ?_⟩
  have hlt := (List.getElem?_eq_some_iff.1 hj).1
  rw [Addr.add_mid]
  refine h.2 _ u ?_
  rw [flatR_append, flatR_append, List.append_assoc, List.getElem?_append_right (by rw [flatR_len]; omega), flatR_len, List.getElem?_append_left (by omega)]
  rw [← hj]; congr 1; show ps.length * 2 + j - ps.length * 2 = j; omega
theorem RefIs.some_ {w : World} {B n c : Nat} {A : Option Addr} {rl : List (List Int × Int)} (h : RefIs w B (.slice A n c) rl) (hp : 0 < rl.length) : ∃ g, A = some ⟨g, 0, none⟩ ∧ n = rl.length ∧ n ≤ c ∧ c ≤ 9223372036854775807 ∧ B ≤ g ∧ g < w.heap.size ∧ ∀ j u, (flatR rl)[j]? = some u → w.cell? ⟨g, j, none⟩ = some u := by
  rcases h.2 with ⟨_, h0⟩ | ⟨g, cap, cur, hv, hg, hh, hcap, hmax, hsz, htk⟩
  · omega
  · injection hv with h1 h2 h3
    subst h1 h2 h3
    refine ⟨g, rfl, rfl, hcap, by unfold maxLen at hmax; exact hmax, hg, lt_of_block hh, fun j u hj => ?_⟩
    have := World.ownsRow.cells (g := g) h rfl j u hj
    rwa [Addr.add_mid, Nat.zero_add] at this
theorem ref_drew {W : World} {B : Nat} {v : Value} {xs : List (List Int × Int)} (h : RefIs W B v xs) : RefIs W.drew B v xs := h.later ((Below.refl _ _).drew)
theorem ref_away {W : World} {B : Nat} {v : Value} {xs : List (List Int × Int)} (h : RefIs W B v xs) (p : Addr) (x : Value) (hp : p.block < B) : RefIs (W.setCell p x) B v xs :=
  ⟨h.1, h.2.imp id fun ⟨g, cap, cur, h1, h2, h3, h4⟩ => ⟨g, cap, cur, h1, h2, Blk.away h3 (by omega) x, h4⟩⟩
set_option maxHeartbeats 1600000 in
theorem refTake_any (A : Option Addr) (c B : Nat) (ps qs : List (List Int × Int)) (p : List Int × Int) (lost i : Int) (w : World) (h : RefIs w B (.slice A (ps ++ p :: qs).length c) (ps ++ p :: qs)) (hB : B ≤ w.heap.size) (hn : ps.length + qs.length < 200) (hi : -9223372036854775808 ≤ i ∧ i ≤ 9223372036854775807) (hk : i % ((ps ++ p :: qs).length : Nat) = ps.length) :
    Calls Try.prog 10 #[.agg #[.slice A (ps ++ p :: qs).length c, .int .i64 lost], .int .i64 i] w fun e w' => ∃ A' c', e = .returned (.tuple #[.agg #[.slice A' (ps.length + qs.length) c', .int .i64 lost], .agg #[.string (strOfNums p.1), .int .i64 p.2], .bool true]) ∧ RefIs w' B (.slice A' (ps.length + qs.length) c') (ps ++ qs) ∧ Below w.heap.size w w' := by
  have hlen : (ps ++ p :: qs).length = ps.length + qs.length + 1 := by simp; omega
  obtain ⟨g, rfl, _, hc1, hc2, hg1, hg2, hcl⟩ := h.some_ (by rw [hlen]; omega)
  have hat := flatR_at (ps ++ p :: qs) ps.length (by simp)
  simp only [List.getElem_append_right (Nat.le_refl _), Nat.sub_self, List.getElem_cons_zero] at hat
  have x0 := hcl _ _ hat.1
  have x1 := hcl _ _ hat.2
  have HS1 : Hid (∀ W, Below w.heap.size w W → RSrc W (.slice (some ⟨g, 0, none⟩) ps.length c) ps) := fun W hW =>
    (src_part (w := w) (g := g) (c := c) (ps := []) (sl := ps) (qs := p :: qs) ⟨hg2, by simpa using hcl⟩ 0 ps.length (by simp) rfl).later hW
  have HS2 : Hid (∀ W c', Below w.heap.size w W → RSrc W (.slice (some ⟨g, (ps.length + 1) * 2, none⟩) qs.length c') qs) := fun W c' hW =>
    (src_part (w := w) (g := g) (c := c') (ps := ps ++ [p]) (sl := qs) (qs := []) ⟨hg2, by simpa using hcl⟩ _ qs.length (by simp) rfl).later hW
  have HS3 : Hid (∀ W c', Below w.heap.size w W → RSrc W (.slice (some ⟨g, 0, none⟩) 0 c') []) := fun W c' hW => Or.inr ⟨_, c', rfl, Nat.lt_of_lt_of_le hg2 hW.size, by simp [flatR]⟩
  obtain ⟨L, hL⟩ : ∃ L, (ps ++ p :: qs).length = L := ⟨_, rfl⟩
  have HAT : Hid (∀ W, Calls Try.prog 22 #[.agg #[.slice (some ⟨g, 0, none⟩) L c, .int .i64 lost], .int .i64 i] W fun e w' => e = .returned (.int .i64 (ps.length : Nat)) ∧ Below W.heap.size W w') := fun W => by
    have := refAt_any (some ⟨g, 0, none⟩) c L lost i W hi (by omega) (by omega)
    rw [hL] at hk
    rwa [hk] at this
  rw [hL] at hlen hc1 ⊢
  have HP := Lib.hid (show ps.length = ps.length from rfl)
  obtain ⟨k, hkE⟩ : ∃ k, ps.length = k := ⟨_, rfl⟩
  obtain ⟨m, hmE⟩ : ∃ m, qs.length = m := ⟨_, rfl⟩
  have HK := Lib.hid hkE
  have HM := Lib.hid hmE
  rw [hkE] at x0 x1 hlen hn HS1 HS2 HAT ⊢
  rw [hmE] at hlen hn HS2 ⊢
  have t1 : ((L : Int) == 0) = false := by simp; omega
  have b1 : (0 : Int) ≤ (k : Int) := by omega
  have b2 : (k : Int) < (L : Int) := by omega
  have b3 : (k : Int) + 1 ≤ (L : Int) := by omega
  have b4 : k ≤ c := by omega
  have b5 : k + 1 ≤ c := by omega
  have b6 : k < L := by omega
  have b7 : k + 1 ≤ L := by omega
  have b12 : (0 : Int) ≤ (k : Int) + 1 := by omega
  have b13 : (k : Int) ≤ (k : Int) + (m : Int) := by omega
  have b8 : IntKind.i64.wrap ((k : Int) + 1) = (k : Int) + 1 := succ_i64 k (by omega)
  have b9 : wrap64 ((k : Int) + 1) = (k : Int) + 1 := succ_w64 k (by omega)
  have b10 : L - (k + 1) = m := by omega
  have b11 : (k : Int) ≤ (c : Int) := Int.ofNat_le.2 b4
  have b14 : (k : Int) + 1 ≤ (c : Int) := Int.ofNat_le.2 b5
  clear h hat hk hcl hL hkE hmE HP hlen hi
  have HB0 : Hid (∀ X Y Z : Array Value, Below w.heap.size w (((w.alloc (.cells X 27)).alloc (.cells Y 27)).alloc (.cells Z 36))) := fun X Y Z => (((Below.refl _ _).alloc (Nat.le_refl _) _).alloc (by simp) _).alloc (by simp; omega) _
  have K0 : Hid (∀ X Y Z : Array Value, Blk (((w.alloc (.cells X 27)).alloc (.cells Y 27)).alloc (.cells Z 36)) w.heap.size 27 X) := fun X Y Z => ((Blk.new w 27 _).more _).more _
  have K1 : Hid (∀ X Y Z : Array Value, Blk (((w.alloc (.cells X 27)).alloc (.cells Y 27)).alloc (.cells Z 36)) (w.heap.size + 1) 27 Y) := fun X Y Z => (Blk.newAt _ 27 _ _ (by simp)).more _
  have K2 : Hid (∀ X Y Z : Array Value, Blk (((w.alloc (.cells X 27)).alloc (.cells Y 27)).alloc (.cells Z 36)) (w.heap.size + 1 + 1) 36 Z) := fun X Y Z => Blk.newAt _ 36 _ _ (by simp)
  have HSZ : Hid (∀ X Y Z : Obj, ((((w.alloc X).alloc Y).alloc Z)).heap.size = w.heap.size + 3) := fun X Y Z => by simp
  go_enter Try.func10, Try.ntmps10
  go_wp2_with fail
  refine (HAT.out _).mono ?_; rintro e w1 ⟨rfl, h1⟩
  have hs1 : w.heap.size + 3 ≤ w1.heap.size := by have := h1.size; rw [HSZ.out] at this; exact this
  have J0 := Lib.hid ((K0.out _ _ _).below h1 (Blk.lt (K0.out _ _ _)))
  have J1 := Lib.hid ((K1.out _ _ _).below h1 (Blk.lt (K1.out _ _ _)))
  have J2 := Lib.hid ((K2.out _ _ _).below h1 (Blk.lt (K2.out _ _ _)))
  have B1 : Hid (Below w.heap.size w w1) := (HB0.out _ _ _).trans (h1.mono (by rw [HSZ.out]; omega))
  clear h1
  have y0 : w1.cell? ⟨w.heap.size, 0, none⟩ = some (.slice (some ⟨g, 0, none⟩) L c) := (J0.out.cell 0).trans rfl
  have y1 : w1.cell? ⟨g, k * 2, none⟩ = some (.string (strOfNums p.1)) := (B1.out.cell (p := ⟨g, _, none⟩) hg2).trans x0
  have y2 : w1.cell? ⟨g, k * 2 + 1, none⟩ = some (.int .i64 p.2) := (B1.out.cell (p := ⟨g, _, none⟩) hg2).trans x1
  go_upto_region 5 with fail
  have hJ : Hid (∀ v, Below w.heap.size w w1 → Below w.heap.size w (w1.alloc v)) := fun v hb => hb.alloc hb.size _
  have L0 := Lib.hid (J0.out.more (.cells #[.string (strOfNums p.1), .int .i64 p.2] 36))
  have L1 := Lib.hid (J1.out.more (.cells #[.string (strOfNums p.1), .int .i64 p.2] 36))
  have L2 := Lib.hid (J2.out.more (.cells #[.string (strOfNums p.1), .int .i64 p.2] 36))
  have L8 := Lib.hid (Blk.new w1 36 #[.string (strOfNums p.1), .int .i64 p.2])
  have LB := Lib.hid (hJ.out (.cells #[.string (strOfNums p.1), .int .i64 p.2] 36) B1.out)
  have hs5 : w.heap.size + 3 ≤ w1.heap.size := hs1
  obtain ⟨t, ht⟩ : ∃ t, w1.heap.size = t := ⟨_, rfl⟩
  obtain ⟨w5, hw5⟩ : ∃ w5, w1.alloc (.cells #[.string (strOfNums p.1), .int .i64 p.2] 36) = w5 := ⟨_, rfl⟩
  have hs6 : w5.heap.size = t + 1 := by rw [← hw5, ← ht]; simp
  rw [hw5] at L0 L1 L2 L8 LB ⊢
  rw [ht] at L8 hs5 ⊢
  have HS6 := Lib.hid hs6
  clear hJ J0 J1 J2 B1 y0 y1 y2 hs6 hs1 hw5 ht HAT
  have y0 : (w5.alloc (.cells #[] 36)).cell? ⟨w.heap.size, 0, none⟩ = some (.slice (some ⟨g, 0, none⟩) L c) := ((L0.out.more _).cell 0).trans rfl
  go_wp2_with (at_builtin; refine wpList_ref_join _ rfl _ _ rfl rfl _ _ rfl rfl w5.heap.size [] ps (ref_empty w5 _ (Nat.le_refl _)) (HS1.out _ (LB.out.alloc LB.out.size _)) k ?_ (by simp) ?_ w5 ((Below.refl _ _).alloc (Nat.le_refl _) _) ?_)
  · have := HK.out; simp; omega
  · omega
  intro A6 c6 w6 h6 hb6
  have H6 := Lib.hid h6
  have M0 := Lib.hid (L0.out.below hb6 L0.out.lt)
  have M1 := Lib.hid (L1.out.below hb6 L1.out.lt)
  have M2 := Lib.hid (L2.out.below hb6 L2.out.lt)
  have M8 := Lib.hid (L8.out.below hb6 L8.out.lt)
  have MB : Hid (Below w.heap.size w w6) := LB.out.trans (hb6.mono LB.out.size)
  have HB6 := Lib.hid hb6
  clear h6 hb6 y0
  have y0 : w6.cell? ⟨w.heap.size, 0, none⟩ = some (.slice (some ⟨g, 0, none⟩) L c) := (M0.out.cell 0).trans rfl
  have M0b : w.heap.size < w5.heap.size := L0.out.lt
  have M1b : w.heap.size + 1 < w5.heap.size := L1.out.lt
  have M2b : w.heap.size + 1 + 1 < w5.heap.size := L2.out.lt
  have M8b : t < w5.heap.size := L8.out.lt
  have n1 : ¬ t = w.heap.size := by omega
  have m1 : ¬ w.heap.size = w.heap.size + 1 := by omega
  have m2 : ¬ w.heap.size = w.heap.size + 1 + 1 := by omega
  have m3 : ¬ w.heap.size + 1 = w.heap.size + 1 + 1 := by omega
  have n2 : ¬ w.heap.size = t := by omega
  have n3 : ¬ t = w.heap.size + 1 := by omega
  have n4 : ¬ w.heap.size + 1 = t := by omega
  have n5 : ¬ t = w.heap.size + 1 + 1 := by omega
  have n6 : ¬ w.heap.size + 1 + 1 = t := by omega
  go_upto_region 6 with fail
  by_cases hcase : k + 1 = c
  · subst hcase
    obtain rfl : m = 0 := by omega
    have hq : qs = [] := List.eq_nil_of_length_eq_zero HM.out
    subst hq
    go_wp2_with (at_builtin; refine wpList_ref_join _ rfl _ _ rfl rfl _ _ rfl rfl w5.heap.size ps [] H6.out (HS3.out _ _ MB.out) (k + 0) ?_ ?_ ?_ w5 HB6.out ?_)
    · have := HK.out; simp; omega
    · exact HB6.out.size
    · omega
    intro A7 c7 w7 h7 hb7
    have H7 := Lib.hid h7
    have N0 := L0.out.below hb7 M0b
    have N1 := L1.out.below hb7 M1b
    have N2 := L2.out.below hb7 M2b
    have N8 := L8.out.below hb7 M8b
    have NB : Hid (Below w.heap.size w w7) := LB.out.trans (hb7.mono LB.out.size)
    have z0 : w7.cell? ⟨w.heap.size, 1, none⟩ = some (.int .i64 lost) := (N0.cell 1).trans rfl
    have z1 := N0.free 0
    have z2 : w7.cell? ⟨w.heap.size + 1, 0, none⟩ = some (.slice none 0 0) := (N1.cell 0).trans rfl
    have z3 : w7.cell? ⟨w.heap.size + 1, 1, none⟩ = some (.int .i64 0) := (N1.cell 1).trans rfl
    have z4 := N1.free 0
    have z5 := N1.free 1
    have z6 : w7.cell? ⟨w.heap.size + 1 + 1, 0, none⟩ = some (.string ByteArray.empty) := (N2.cell 0).trans rfl
    have z7 : w7.cell? ⟨w.heap.size + 1 + 1, 1, none⟩ = some (.int .i64 0) := (N2.cell 1).trans rfl
    have z8 := N2.free 0
    have z9 := N2.free 1
    have z10 : w7.cell? ⟨t, 0, none⟩ = some (.string (strOfNums p.1)) := (N8.cell 0).trans rfl
    have z11 : w7.cell? ⟨t, 1, none⟩ = some (.int .i64 p.2) := (N8.cell 1).trans rfl
    have z12 : w7.cell? ⟨w.heap.size, 0, none⟩ = some (.slice (some ⟨g, 0, none⟩) L (k + 1)) := (N0.cell 0).trans rfl
    have P0 := Lib.hid N0
    have P1 := Lib.hid N1
    have P2 := Lib.hid N2
    have P8 := Lib.hid N8
    clear h7 hb7 N0 N1 N2 N8
    go_upto_region 7 with fail
    have R0 := Lib.hid (P0.out.put 0 (.slice A7 k c7) rfl)
    have R1 := Lib.hid (Blk.away (p := ⟨w.heap.size, 0, none⟩) P1.out (by show w.heap.size + 1 ≠ w.heap.size; omega) (.slice A7 k c7))
    have R2 := Lib.hid (Blk.away (p := ⟨w.heap.size, 0, none⟩) P2.out (by show w.heap.size + 1 + 1 ≠ w.heap.size; omega) (.slice A7 k c7))
    have R8 := Lib.hid (Blk.away (p := ⟨w.heap.size, 0, none⟩) P8.out n1 (.slice A7 k c7))
    have RB := Lib.hid (NB.out.setCell (p := ⟨w.heap.size, 0, none⟩) (Nat.le_refl _) (.slice A7 k c7))
    have RR := Lib.hid (ref_away H7.out ⟨w.heap.size, 0, none⟩ (.slice A7 k c7) M0b)
    obtain ⟨w8, hw8⟩ : ∃ w8, w7.setCell ⟨w.heap.size, 0, none⟩ (.slice A7 k c7) = w8 := ⟨_, rfl⟩
    rw [hw8] at R0 R1 R2 R8 RB RR ⊢
    clear hw8 z0 z1 z2 z3 z4 z5 z6 z7 z8 z9 z10 z11 z12 P0 P1 P2 P8 NB H7
    have z0 : w8.cell? ⟨w.heap.size, 1, none⟩ = some (.int .i64 lost) := (R0.out.cell 1).trans rfl
    have z1 : w8.cell? ⟨w.heap.size, 0, none⟩ = some (.slice A7 k c7) := (R0.out.cell 0).trans rfl
    have z2 : w8.cell? ⟨w.heap.size + 1, 0, none⟩ = some (.slice none 0 0) := (R1.out.cell 0).trans rfl
    have z3 : w8.cell? ⟨w.heap.size + 1, 1, none⟩ = some (.int .i64 0) := (R1.out.cell 1).trans rfl
    have z4 := R1.out.free 0
    have z5 := R1.out.free 1
    have z6 : w8.cell? ⟨w.heap.size + 1 + 1, 0, none⟩ = some (.string ByteArray.empty) := (R2.out.cell 0).trans rfl
    have z7 : w8.cell? ⟨w.heap.size + 1 + 1, 1, none⟩ = some (.int .i64 0) := (R2.out.cell 1).trans rfl
    have z8 := R2.out.free 0
    have z9 := R2.out.free 1
    have z10 : w8.cell? ⟨t, 0, none⟩ = some (.string (strOfNums p.1)) := (R8.out.cell 0).trans rfl
    have z11 : w8.cell? ⟨t, 1, none⟩ = some (.int .i64 p.2) := (R8.out.cell 1).trans rfl
    go_region_law (fail)
    all_goals
      go_wp2_with fail
      have HS := HS6.out
      refine bodyPost_ret (results_cell_cell_tmp rfl _ _ (w.heap.size + 1) (w.heap.size + 1 + 1) 27 36 #[.slice A7 k c7, .int .i64 lost] #[.string (strOfNums p.1), .int .i64 p.2] (0, 0) (0, 0) _ _ rfl ?_ rfl ?_ Try.underlying27 rfl size27 Try.underlying36 rfl size36) rfl ?_
      · exact Blk.away (Blk.away ((R1.out.put 0 _ rfl).put 1 _ rfl) (by show w.heap.size + 1 ≠ w.heap.size + 1 + 1; omega) _) (by show w.heap.size + 1 ≠ w.heap.size + 1 + 1; omega) _
      · exact ((Blk.away (Blk.away R2.out (by show w.heap.size + 1 + 1 ≠ w.heap.size + 1; omega) _) (by show w.heap.size + 1 + 1 ≠ w.heap.size + 1; omega) _).put 0 _ rfl).put 1 _ rfl
      · refine ⟨A7, c7, rfl, ?_, ?_⟩
        · refine RefIs.base (B := w5.heap.size) ?_ (by omega)
          try simp only [List.append_nil, Nat.add_zero]
          repeat' (first | (with_reducible exact RR.out) | (with_reducible refine ref_drew ?_) | (with_reducible refine ref_away ?_ _ _ (by first | exact M1b | exact M2b)))
        · repeat' (first | (with_reducible exact RB.out) | (with_reducible refine Below.drew ?_) | (refine Below.setCell ?_ (by first | exact Nat.le_succ _ | exact Nat.le_succ_of_le (Nat.le_succ _)) _))
  · have b15 : ¬ c = k + 1 := by omega
    have b16 : k + 1 < c := by omega
    go_wp2_with (at_builtin; refine wpList_ref_join _ rfl _ _ rfl rfl _ _ rfl rfl w5.heap.size ps qs H6.out (HS2.out _ _ MB.out) (k + m) ?_ ?_ ?_ w5 HB6.out ?_)
    · have := HK.out; have := HM.out; omega
    · exact HB6.out.size
    · omega
    intro A7 c7 w7 h7 hb7
    have H7 := Lib.hid h7
    have N0 := L0.out.below hb7 M0b
    have N1 := L1.out.below hb7 M1b
    have N2 := L2.out.below hb7 M2b
    have N8 := L8.out.below hb7 M8b
    have NB : Hid (Below w.heap.size w w7) := LB.out.trans (hb7.mono LB.out.size)
    have z0 : w7.cell? ⟨w.heap.size, 1, none⟩ = some (.int .i64 lost) := (N0.cell 1).trans rfl
    have z1 := N0.free 0
    have z2 : w7.cell? ⟨w.heap.size + 1, 0, none⟩ = some (.slice none 0 0) := (N1.cell 0).trans rfl
    have z3 : w7.cell? ⟨w.heap.size + 1, 1, none⟩ = some (.int .i64 0) := (N1.cell 1).trans rfl
    have z4 := N1.free 0
    have z5 := N1.free 1
    have z6 : w7.cell? ⟨w.heap.size + 1 + 1, 0, none⟩ = some (.string ByteArray.empty) := (N2.cell 0).trans rfl
    have z7 : w7.cell? ⟨w.heap.size + 1 + 1, 1, none⟩ = some (.int .i64 0) := (N2.cell 1).trans rfl
    have z8 := N2.free 0
    have z9 := N2.free 1
    have z10 : w7.cell? ⟨t, 0, none⟩ = some (.string (strOfNums p.1)) := (N8.cell 0).trans rfl
    have z11 : w7.cell? ⟨t, 1, none⟩ = some (.int .i64 p.2) := (N8.cell 1).trans rfl
    have z12 : w7.cell? ⟨w.heap.size, 0, none⟩ = some (.slice (some ⟨g, 0, none⟩) L c) := (N0.cell 0).trans rfl
    have P0 := Lib.hid N0
    have P1 := Lib.hid N1
    have P2 := Lib.hid N2
    have P8 := Lib.hid N8
    clear h7 hb7 N0 N1 N2 N8
    go_upto_region 7 with fail
    have R0 := Lib.hid (P0.out.put 0 (.slice A7 (k + m) c7) rfl)
    have R1 := Lib.hid (Blk.away (p := ⟨w.heap.size, 0, none⟩) P1.out (by show w.heap.size + 1 ≠ w.heap.size; omega) (.slice A7 (k + m) c7))
    have R2 := Lib.hid (Blk.away (p := ⟨w.heap.size, 0, none⟩) P2.out (by show w.heap.size + 1 + 1 ≠ w.heap.size; omega) (.slice A7 (k + m) c7))
    have R8 := Lib.hid (Blk.away (p := ⟨w.heap.size, 0, none⟩) P8.out n1 (.slice A7 (k + m) c7))
    have RB := Lib.hid (NB.out.setCell (p := ⟨w.heap.size, 0, none⟩) (Nat.le_refl _) (.slice A7 (k + m) c7))
    have RR := Lib.hid (ref_away H7.out ⟨w.heap.size, 0, none⟩ (.slice A7 (k + m) c7) M0b)
    obtain ⟨w8, hw8⟩ : ∃ w8, w7.setCell ⟨w.heap.size, 0, none⟩ (.slice A7 (k + m) c7) = w8 := ⟨_, rfl⟩
    rw [hw8] at R0 R1 R2 R8 RB RR ⊢
    clear hw8 z0 z1 z2 z3 z4 z5 z6 z7 z8 z9 z10 z11 z12 P0 P1 P2 P8 NB H7
    have z0 : w8.cell? ⟨w.heap.size, 1, none⟩ = some (.int .i64 lost) := (R0.out.cell 1).trans rfl
    have z1 : w8.cell? ⟨w.heap.size, 0, none⟩ = some (.slice A7 (k + m) c7) := (R0.out.cell 0).trans rfl
    have z2 : w8.cell? ⟨w.heap.size + 1, 0, none⟩ = some (.slice none 0 0) := (R1.out.cell 0).trans rfl
    have z3 : w8.cell? ⟨w.heap.size + 1, 1, none⟩ = some (.int .i64 0) := (R1.out.cell 1).trans rfl
    have z4 := R1.out.free 0
    have z5 := R1.out.free 1
    have z6 : w8.cell? ⟨w.heap.size + 1 + 1, 0, none⟩ = some (.string ByteArray.empty) := (R2.out.cell 0).trans rfl
    have z7 : w8.cell? ⟨w.heap.size + 1 + 1, 1, none⟩ = some (.int .i64 0) := (R2.out.cell 1).trans rfl
    have z8 := R2.out.free 0
    have z9 := R2.out.free 1
    have z10 : w8.cell? ⟨t, 0, none⟩ = some (.string (strOfNums p.1)) := (R8.out.cell 0).trans rfl
    have z11 : w8.cell? ⟨t, 1, none⟩ = some (.int .i64 p.2) := (R8.out.cell 1).trans rfl
    go_region_law (fail)
    all_goals
      go_wp2_with fail
      have HS := HS6.out
      refine bodyPost_ret (results_cell_cell_tmp rfl _ _ (w.heap.size + 1) (w.heap.size + 1 + 1) 27 36 #[.slice A7 (k + m) c7, .int .i64 lost] #[.string (strOfNums p.1), .int .i64 p.2] (0, 0) (0, 0) _ _ rfl ?_ rfl ?_ Try.underlying27 rfl size27 Try.underlying36 rfl size36) rfl ?_
      · exact Blk.away (Blk.away ((R1.out.put 0 _ rfl).put 1 _ rfl) (by show w.heap.size + 1 ≠ w.heap.size + 1 + 1; omega) _) (by show w.heap.size + 1 ≠ w.heap.size + 1 + 1; omega) _
      · exact ((Blk.away (Blk.away R2.out (by show w.heap.size + 1 + 1 ≠ w.heap.size + 1; omega) _) (by show w.heap.size + 1 + 1 ≠ w.heap.size + 1; omega) _).put 0 _ rfl).put 1 _ rfl
      · refine ⟨A7, c7, rfl, ?_, ?_⟩
        · refine RefIs.base (B := w5.heap.size) ?_ (by omega)
          try simp only [List.append_nil, Nat.add_zero]
          repeat' (first | (with_reducible exact RR.out) | (with_reducible refine ref_drew ?_) | (with_reducible refine ref_away ?_ _ _ (by first | exact M1b | exact M2b)))
        · repeat' (first | (with_reducible exact RB.out) | (with_reducible refine Below.drew ?_) | (refine Below.setCell ?_ (by first | exact Nat.le_succ _ | exact Nat.le_succ_of_le (Nat.le_succ _)) _))
end Go.Proofs.Ytiooikjaalphiaa
