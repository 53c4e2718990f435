/-
  The walk of harrierref32.Syn. No condition beyond what may be.
-/
import Derived.Test.YtikceomnkkpljaaNodes
namespace Go.Proofs.Ytikceomnkkpljaa
open Go.ChangeShapes Go.WideShapes Go.ChangeAt Go.RowKit
set_option linter.unusedVariables false
set_option linter.unusedSimpArgs false

theorem adr_lit (n d a : Int) : ∃ p q x0 x1 x2 x3, adrV n d a = #[.int .u8 253, .int .u8 108, .int .u8 0, .int .u8 98, .int .u8 0, .int .u8 0, .int .u8 0, .int .u8 0, .int .u8 p, .int .u8 q, .int .u8 d, .int .u8 0, .int .u8 x0, .int .u8 x1, .int .u8 x2, .int .u8 x3] ∧ (#[.int .u8 253, .int .u8 108, .int .u8 0, .int .u8 98, .int .u8 0, .int .u8 0, .int .u8 0, .int .u8 0, .int .u8 p, .int .u8 q, .int .u8 d, .int .u8 0, .int .u8 x0, .int .u8 x1, .int .u8 x2, .int .u8 x3] : Array Value).toList = Seg.cells (n, d, a) := ⟨n / 256 % 256, n % 256, a / 16777216, a / 65536 % 256, a / 256 % 256, a % 256, rfl, rfl⟩
def NewAt (W : World) (g : Nat) (xs : List Value) : Prop := ∀ j u, xs[j]? = some u → W.cell? ((⟨g, 0, none⟩ : Addr).add j) = some u
theorem NewAt.blk {W : World} {g : Nat} {t : TypeId} {cs : Array Value} {xs : List Value} (h : Blk W g t cs) (e : cs.toList = xs) : NewAt W g xs := fun j u hj => by
  rw [Addr.add_mid, Nat.zero_add, h.cell, ← Array.getElem?_toList, e]
  exact hj
theorem seg_put (n d a : Int) (B : Nat) (v : Value) (l : List Seg) (w W : World) (hO : OwnA W B v l) (hB : B ≤ W.heap.size) (hb : Below B w W) (hn : 0 ≤ n ∧ n ≤ 65535) (hd : 0 ≤ d ∧ d ≤ 255) (ha : 0 ≤ a ∧ a ≤ 4294967295) :
    Calls Try.prog 26 #[.int .i64 n, .int .i64 d, .int .u32 a] W fun e w2 => ∃ p q x0 x1 x2 x3, e = .returned (.agg #[.int .u8 253, .int .u8 108, .int .u8 0, .int .u8 98, .int .u8 0, .int .u8 0, .int .u8 0, .int .u8 0, .int .u8 p, .int .u8 q, .int .u8 d, .int .u8 0, .int .u8 x0, .int .u8 x1, .int .u8 x2, .int .u8 x3]) ∧ Hid (OwnA (w2.alloc (.cells #[.int .u8 253, .int .u8 108, .int .u8 0, .int .u8 98, .int .u8 0, .int .u8 0, .int .u8 0, .int .u8 0, .int .u8 p, .int .u8 q, .int .u8 d, .int .u8 0, .int .u8 x0, .int .u8 x1, .int .u8 x2, .int .u8 x3] 34)) B v l) ∧ Hid (B ≤ (w2.alloc (.cells #[.int .u8 253, .int .u8 108, .int .u8 0, .int .u8 98, .int .u8 0, .int .u8 0, .int .u8 0, .int .u8 0, .int .u8 p, .int .u8 q, .int .u8 d, .int .u8 0, .int .u8 x0, .int .u8 x1, .int .u8 x2, .int .u8 x3] 34)).heap.size) ∧ Hid (Below B w (w2.alloc (.cells #[.int .u8 253, .int .u8 108, .int .u8 0, .int .u8 98, .int .u8 0, .int .u8 0, .int .u8 0, .int .u8 0, .int .u8 p, .int .u8 q, .int .u8 d, .int .u8 0, .int .u8 x0, .int .u8 x1, .int .u8 x2, .int .u8 x3] 34))) ∧ Hid (NewAt (w2.alloc (.cells #[.int .u8 253, .int .u8 108, .int .u8 0, .int .u8 98, .int .u8 0, .int .u8 0, .int .u8 0, .int .u8 0, .int .u8 p, .int .u8 q, .int .u8 d, .int .u8 0, .int .u8 x0, .int .u8 x1, .int .u8 x2, .int .u8 x3] 34)) w2.heap.size (Seg.cells (n, d, a))) := by
  refine (seg_any n d a W hn hd ha).mono ?_
  rintro e w2 ⟨rfl, h1⟩
  obtain ⟨p, q, x0, x1, x2, x3, h2, h3⟩ := adr_lit n d a
  rw [h2]
  have hs : B ≤ w2.heap.size := Nat.le_trans hB h1.size
  exact ⟨p, q, x0, x1, x2, x3, rfl, (hO.later h1).more _, by unfold Hid; simp; omega, (hb.trans (h1.mono hB)).alloc hs _, NewAt.blk (Blk.new w2 34 _) h3⟩
theorem seg_first (n d a : Int) (B : Nat) (v : Value) (l : List Seg) (w W : World) (hO : OwnA W B v l) (hB : B ≤ W.heap.size) (hb : Below B w W) (hn : 0 ≤ n ∧ n ≤ 65535) (hd : 0 ≤ d ∧ d ≤ 255) (ha : 0 ≤ a ∧ a ≤ 4294967295) :
    Calls Try.prog 26 #[.int .i64 n, .int .i64 d, .int .u32 a] W fun e w2 => ∃ p q x0 x1 x2 x3, e = .returned (.agg #[.int .u8 253, .int .u8 108, .int .u8 0, .int .u8 98, .int .u8 0, .int .u8 0, .int .u8 0, .int .u8 0, .int .u8 p, .int .u8 q, .int .u8 d, .int .u8 0, .int .u8 x0, .int .u8 x1, .int .u8 x2, .int .u8 x3]) ∧ Hid ((#[.int .u8 253, .int .u8 108, .int .u8 0, .int .u8 98, .int .u8 0, .int .u8 0, .int .u8 0, .int .u8 0, .int .u8 p, .int .u8 q, .int .u8 d, .int .u8 0, .int .u8 x0, .int .u8 x1, .int .u8 x2, .int .u8 x3] : Array Value).toList = Seg.cells (n, d, a)) ∧ Hid (OwnA w2 B v l ∧ B ≤ w2.heap.size ∧ Below B w w2) := by
  refine (seg_any n d a W hn hd ha).mono ?_
  rintro e w2 ⟨rfl, h1⟩
  obtain ⟨p, q, x0, x1, x2, x3, h2, h3⟩ := adr_lit n d a
  rw [h2]
  exact ⟨p, q, x0, x1, x2, x3, rfl, h3, hO.later h1, Nat.le_trans hB h1.size, hb.trans (h1.mono hB)⟩
theorem seg_second (p q d x0 x1 x2 x3 : Int) (s0 : Seg) (h0 : (#[.int .u8 253, .int .u8 108, .int .u8 0, .int .u8 98, .int .u8 0, .int .u8 0, .int .u8 0, .int .u8 0, .int .u8 p, .int .u8 q, .int .u8 d, .int .u8 0, .int .u8 x0, .int .u8 x1, .int .u8 x2, .int .u8 x3] : Array Value).toList = Seg.cells s0) (n e2 a : Int) (B : Nat) (v : Value) (l : List Seg) (w W : World) (hO : OwnA W B v l) (hB : B ≤ W.heap.size) (hb : Below B w W) (hn : 0 ≤ n ∧ n ≤ 65535) (hd : 0 ≤ e2 ∧ e2 ≤ 255) (ha : 0 ≤ a ∧ a ≤ 4294967295) :
    Calls Try.prog 26 #[.int .i64 n, .int .i64 e2, .int .u32 a] W fun e w2 => ∃ p' q' x0' x1' x2' x3', e = .returned (.agg #[.int .u8 253, .int .u8 108, .int .u8 0, .int .u8 98, .int .u8 0, .int .u8 0, .int .u8 0, .int .u8 0, .int .u8 p', .int .u8 q', .int .u8 e2, .int .u8 0, .int .u8 x0', .int .u8 x1', .int .u8 x2', .int .u8 x3']) ∧ Hid (OwnA (w2.alloc (.cells (List.toArray ((Value.int .u8 253) :: (Value.int .u8 108) :: (Value.int .u8 0) :: (Value.int .u8 98) :: (Value.int .u8 0) :: (Value.int .u8 0) :: (Value.int .u8 0) :: (Value.int .u8 0) :: (Value.int .u8 p) :: (Value.int .u8 q) :: (Value.int .u8 d) :: (Value.int .u8 0) :: (Value.int .u8 x0) :: (Value.int .u8 x1) :: (Value.int .u8 x2) :: (Value.int .u8 x3) :: (Value.int .u8 253) :: (Value.int .u8 108) :: (Value.int .u8 0) :: (Value.int .u8 98) :: (Value.int .u8 0) :: (Value.int .u8 0) :: (Value.int .u8 0) :: (Value.int .u8 0) :: (Value.int .u8 p') :: (Value.int .u8 q') :: (Value.int .u8 e2) :: (Value.int .u8 0) :: (Value.int .u8 x0') :: (Value.int .u8 x1') :: (Value.int .u8 x2') :: (Value.int .u8 x3') :: [])) 34)) B v l) ∧ Hid (B ≤ (w2.alloc (.cells (List.toArray ((Value.int .u8 253) :: (Value.int .u8 108) :: (Value.int .u8 0) :: (Value.int .u8 98) :: (Value.int .u8 0) :: (Value.int .u8 0) :: (Value.int .u8 0) :: (Value.int .u8 0) :: (Value.int .u8 p) :: (Value.int .u8 q) :: (Value.int .u8 d) :: (Value.int .u8 0) :: (Value.int .u8 x0) :: (Value.int .u8 x1) :: (Value.int .u8 x2) :: (Value.int .u8 x3) :: (Value.int .u8 253) :: (Value.int .u8 108) :: (Value.int .u8 0) :: (Value.int .u8 98) :: (Value.int .u8 0) :: (Value.int .u8 0) :: (Value.int .u8 0) :: (Value.int .u8 0) :: (Value.int .u8 p') :: (Value.int .u8 q') :: (Value.int .u8 e2) :: (Value.int .u8 0) :: (Value.int .u8 x0') :: (Value.int .u8 x1') :: (Value.int .u8 x2') :: (Value.int .u8 x3') :: [])) 34)).heap.size) ∧ Hid (Below B w (w2.alloc (.cells (List.toArray ((Value.int .u8 253) :: (Value.int .u8 108) :: (Value.int .u8 0) :: (Value.int .u8 98) :: (Value.int .u8 0) :: (Value.int .u8 0) :: (Value.int .u8 0) :: (Value.int .u8 0) :: (Value.int .u8 p) :: (Value.int .u8 q) :: (Value.int .u8 d) :: (Value.int .u8 0) :: (Value.int .u8 x0) :: (Value.int .u8 x1) :: (Value.int .u8 x2) :: (Value.int .u8 x3) :: (Value.int .u8 253) :: (Value.int .u8 108) :: (Value.int .u8 0) :: (Value.int .u8 98) :: (Value.int .u8 0) :: (Value.int .u8 0) :: (Value.int .u8 0) :: (Value.int .u8 0) :: (Value.int .u8 p') :: (Value.int .u8 q') :: (Value.int .u8 e2) :: (Value.int .u8 0) :: (Value.int .u8 x0') :: (Value.int .u8 x1') :: (Value.int .u8 x2') :: (Value.int .u8 x3') :: [])) 34))) ∧ Hid (NewAt (w2.alloc (.cells (List.toArray ((Value.int .u8 253) :: (Value.int .u8 108) :: (Value.int .u8 0) :: (Value.int .u8 98) :: (Value.int .u8 0) :: (Value.int .u8 0) :: (Value.int .u8 0) :: (Value.int .u8 0) :: (Value.int .u8 p) :: (Value.int .u8 q) :: (Value.int .u8 d) :: (Value.int .u8 0) :: (Value.int .u8 x0) :: (Value.int .u8 x1) :: (Value.int .u8 x2) :: (Value.int .u8 x3) :: (Value.int .u8 253) :: (Value.int .u8 108) :: (Value.int .u8 0) :: (Value.int .u8 98) :: (Value.int .u8 0) :: (Value.int .u8 0) :: (Value.int .u8 0) :: (Value.int .u8 0) :: (Value.int .u8 p') :: (Value.int .u8 q') :: (Value.int .u8 e2) :: (Value.int .u8 0) :: (Value.int .u8 x0') :: (Value.int .u8 x1') :: (Value.int .u8 x2') :: (Value.int .u8 x3') :: [])) 34)) w2.heap.size (Seg.cells s0 ++ Seg.cells (n, e2, a))) := by
  refine (seg_any n e2 a W hn hd ha).mono ?_
  rintro e w2 ⟨rfl, h1⟩
  obtain ⟨p', q', x0', x1', x2', x3', h2, h3⟩ := adr_lit n e2 a
  rw [h2]
  have hs : B ≤ w2.heap.size := Nat.le_trans hB h1.size
  refine ⟨p', q', x0', x1', x2', x3', rfl, (hO.later h1).more _, by unfold Hid; simp; omega, (hb.trans (h1.mono hB)).alloc hs _, NewAt.blk (Blk.new w2 34 _) ?_⟩
  rw [← h0, ← h3]
  rfl
theorem segs_one {s : Seg} : ∀ u ∈ Seg.cells s, u.oneCell' = true := u8s_one
theorem OwnA.step {w1 : World} {B k : Nat} {v' : Value} {l : List Seg} {s : Seg} (h : w1.ownsRow B 34 16 v' k (flatA l ++ Seg.cells s)) (hk : k = l.length + 1) : OwnA w1 B v' (l ++ [s]) := by
  subst hk
  unfold OwnA
  rw [List.length_append, flatA_append]
  simpa [flatA] using h
theorem OwnA.step2 {w1 : World} {B k : Nat} {v' : Value} {l : List Seg} {s t : Seg} (h : w1.ownsRow B 34 16 v' k (flatA l ++ (Seg.cells s ++ Seg.cells t))) (hk : k = l.length + 2) : OwnA w1 B v' (l ++ [s, t]) := by
  subst hk
  unfold OwnA
  rw [List.length_append, flatA_append]
  simpa [flatA] using h
theorem two_segs {s t : Seg} : ∀ u ∈ Seg.cells s ++ Seg.cells t, u.oneCell' = true := fun u hu => by
  rcases List.mem_append.1 hu with h | h
  · exact segs_one u h
  · exact segs_one u h
theorem segL_snoc (d a : Int) (l : List Int) (x : Int) : segL d a (l ++ [x]) = segL d a l ++ [(x, d, a)] := by simp [segL]
theorem segL_len (d a : Int) (l : List Int) : (segL d a l).length = l.length := by simp [segL]
theorem lastL_few (ps : List (Int × Int)) : (lastL ps).length ≤ 4 := by unfold lastL; simp; omega
theorem refSyn_none (A : Option Addr) (n c : Nat) (ps : List (Int × Int)) (x : Int) (w : World) (h : PRow w A ps) (hn : ps.length = n) (hm : n ≤ 1000000) (h0 : (newest ps).1 = 0) :
    Calls Try.prog 11 #[.slice A n c, .int .i64 x] w fun e w' => e = .returned (.slice none 0 0) ∧ Below w.heap.size w w' := by
  have HN := refNewest_any A n c ps w h hn hm
  rw [h0] at HN
  have HH := Lib.hid HN
  clear HN h hn h0
  go_enter Try.func11, Try.ntmps11
  go_wp2_with fail
  refine HH.out.mono ?_; rintro e w1 ⟨rfl, h1⟩
  have H1 := Lib.hid h1
  clear h1
  go_wp2_with fail
  go_ret
  exact ⟨rfl, H1.out⟩
set_option maxRecDepth 100000 in
set_option maxHeartbeats 3200000 in
theorem refSyn_some (A : Option Addr) (n c : Nat) (ps : List (Int × Int)) (x : Int) (w : World) (h : PRow w A ps) (hn : ps.length = n) (hm : n ≤ 1000000) (hc : n ≤ c) (hc2 : c ≤ 9223372036854775807) (h0 : ¬ (newest ps).1 = 0) :
    Calls Try.prog 11 #[.slice A n c, .int .i64 x] w fun e w' => ∃ v, e = .returned v ∧ OwnA w' w.heap.size v (synL ps (u32w x)) ∧ Below w.heap.size w w' := by
  have HN := Lib.hid (refNewest_any A n c ps w h hn hm)
  have t0 : ((newest ps).1 == 0) = false := by simpa using h0
  obtain ⟨f, s, hfs⟩ : ∃ f s, newest ps = (f, s) := ⟨_, _, rfl⟩
  have HFS := Lib.hid hfs
  rw [hfs] at HN t0
  simp only at t0
  have hx := u32w_rng x
  obtain ⟨a, ha⟩ : ∃ a, IntKind.u32.wrap x = a := ⟨_, rfl⟩
  have hax : 0 ≤ a ∧ a ≤ 4294967295 := by rw [← ha]; exact hx
  have HP := Lib.hid h
  have HL := Lib.hid hn
  obtain ⟨i0, hi, hz0, hz1, hz2⟩ := info_parts info34
  have HZ := Lib.hid (And.intro hi (And.intro hz0 (And.intro hz1 hz2)))
  clear h hn h0 hfs hi hz0 hz1 hz2
  go_enter Try.func11, Try.ntmps11
  go_wp2_with fail
  refine HN.out.mono ?_; rintro e w1 ⟨rfl, h1⟩
  have H1 := Lib.hid h1
  clear h1
  go_wp2_with fail
  refine (last_any A n c ps w1 (HP.out.later H1.out) HL.out hm hc hc2).mono ?_
  rintro e w2 ⟨A', n', c', rfl, k1, k2, k3, k4, rfl⟩
  have hne : 0 < (lastL ps).length := by
    have hp : 0 < ps.length := by
      rcases Nat.eq_zero_or_pos ps.length with h | h
      · have hnil := List.eq_nil_of_length_eq_zero h
        have := HFS.out
        rw [hnil] at this
        injection this with e1 e2
        subst e1
        simp at t0
      · exact h
    unfold lastL
    simp
    omega
  obtain ⟨qs, pl, hq⟩ := snoc_of (lastL ps) hne
  obtain ⟨m, rfl⟩ : ∃ m, n' = m + 1 := ⟨n' - 1, by omega⟩
  have hqm : qs.length = m := by rw [hq] at k1; simp at k1; exact k1
  have hm3 : m ≤ 3 := by have := lastL_few ps; omega
  rw [hq] at k4
  obtain ⟨g, o, rfl, hg, hpc⟩ := k4 (by simp)
  have hpr : PRow w1 (some ⟨g, o, none⟩) qs := fun hp => ⟨g, o, rfl, hg, fun i hi => by
    have h := hpc i (by simp; omega)
    rw [List.getElem_append_left hi] at h
    exact h⟩
  have HQ := Lib.hid hq
  have HNO := Lib.hid (nodes_any (some ⟨g, o, none⟩) m c' qs w1 hpr hqm (by omega))
  have b1 : (0 : Int) ≤ (m : Int) := Int.natCast_nonneg m
  have b2 : (m : Int) ≤ (c' : Int) := by omega
  have hok := newest_ok HFS.out (by simpa using t0)
  have HOK := Lib.hid hok
  have hnl := nodesL_len (flatN qs)
  rw [flatN_len, hqm] at hnl
  have hval : ∀ y ∈ nodesL (flatN qs), isN y = true := fun y hy => ((mem_nodesL _ y).1 hy).2
  obtain ⟨old, hold⟩ : ∃ old, nodesL (flatN qs) = old := ⟨_, rfl⟩
  rw [hold] at HNO hnl hval
  have HOLD := Lib.hid hold
  have HVAL := Lib.hid hval
  clear k1 k4 hq hqm hne hpc hg hpr hok hold hval
  go_wp2_with fail
  refine HNO.out.mono ?_; rintro e w3 ⟨v3, rfl, h1, h2⟩
  obtain ⟨A8, c8, rfl⟩ := h1.form
  have HOR := Lib.hid h1.row
  have H3 : Hid (Below w.heap.size w w3) := H1.out.trans (h2.mono H1.out.size)
  obtain ⟨L, hL⟩ : ∃ L, old.length = L := ⟨_, rfl⟩
  rw [hL] at hnl ⊢
  have HLL := Lib.hid hL
  have hL8 : L ≤ 6 := by omega
  clear h1 h2 HNO hL
  go_wp2_with fail
  go_loopg [9, 10] (L + 1) (fun gk s9 s10 wr => ∃ (i c9 : Nat) (A9 : Option Addr), s9 = .slice A9 i c9 ∧ s10 = .int .i64 i ∧ gk + i = L + 1 ∧ i ≤ L ∧ Hid (OwnA wr w3.heap.size (.slice A9 i c9) (segL 1 a (old.take i)) ∧ Below w3.heap.size w3 wr))
  case atStart => exact ⟨0, 0, none, rfl, rfl, by omega, by omega, OwnA.nil _ _, Below.refl _ _⟩
  case round =>
    obtain ⟨i, c9, A9, rfl, rfl, hgi, hin, HI⟩ := hrel
    by_cases hlt : i < L
    · have hil : i < old.length := by have := HLL.out; omega
      obtain ⟨g8, o8, rfl, hg8, hc8⟩ := HOR.out (by omega)
      have x0 : wr.cell? ⟨g8, o8 + i, none⟩ = some (.int .i64 old[i]) := (HI.out.2.cell (p := ⟨g8, _, none⟩) hg8).trans (hc8 i hil)
      have htk : old.take (i + 1) = old.take i ++ [old[i]] := by rw [List.take_add_one, List.getElem?_eq_getElem hil]; rfl
      have hy := isN_ok (HVAL.out _ (List.getElem_mem hil))
      obtain ⟨y, hye⟩ : ∃ y, old[i] = y := ⟨_, rfl⟩
      rw [hye] at x0 htk hy
      have HTK := Lib.hid htk
      have hsl : (segL 1 a (old.take i)).length = i := by rw [segL_len]; simp; omega
      have HSL := Lib.hid hsl
      obtain ⟨sl, hsl2⟩ : ∃ sl, segL 1 a (old.take i) = sl := ⟨_, rfl⟩
      have HS2 := Lib.hid hsl2
      rw [hsl2] at HI HSL
      have HSEG := Lib.hid (seg_put y 1 a w3.heap.size (.slice A9 i c9) sl w3 wr HI.out.1 HI.out.2.size HI.out.2 (by omega) (by omega) hax)
      have b1' : (0 : Int) ≤ (i : Int) := Int.natCast_nonneg i
      have b2' : (i : Int) < (L : Int) := Int.ofNat_lt.2 hlt
      have h63 : Hid (i + 1 ≤ maxLen) := by unfold Hid maxLen; omega
      have h47 : Hid ((i + 1) * 16 ≤ 140737488355328) := by unfold Hid; omega
      have HROW : Hid (∀ W : World, OwnA W w3.heap.size (.slice A9 i c9) sl → W.ownsRow w3.heap.size 34 16 (.slice A9 i c9) i (flatA sl)) := fun W h => by
        have := h
        unfold OwnA at this
        rw [HSL.out] at this
        exact this
      clear hc8 htk hye hsl hsl2 hil hg8
      go_wp2_with (first
        | (go_at_call 26; refine HSEG.out.mono ?_; rintro e w4 ⟨p, q, x0', x1', x2', x3', rfl, O4, S4, B4, N4⟩)
        | (at_builtin; refine wpList_append_own _ rfl _ _ 27 rfl w3.heap.size 34 i0 _ 16 16 Try.underlying27 HZ.out.1 HZ.out.2.1 HZ.out.2.2.1 HZ.out.2.2.2 rfl (Nat.succ_pos 15) _ i (flatA sl) rfl (HROW.out _ O4.out) ⟨w4.heap.size, 0, none⟩ 1 1 (Seg.cells (y, 1, a)) rfl rfl N4.out segs_one h63.out h47.out S4.out ?_; intro v' w5 hown hgrow _; have G1 := Lib.hid hown; have G2 := Lib.hid hgrow; obtain ⟨g', cap', rfl⟩ := ownsRow_succ hown; clear hown hgrow)
        | fail)
      go_roundg (gk - 1)
      case rel =>
        refine ⟨i + 1, cap', some ⟨g', 0, none⟩, rfl, by go_num, by omega, by omega, ?_⟩
        rw [HTK.out, segL_snoc, HS2.out]
        exact ⟨OwnA.step G1.out (by rw [HSL.out]), B4.out.grown G2.out S4.out (fun k hk => (O4.out.lt k hk).1)⟩
      case measure => omega
    · obtain rfl : i = L := by omega
      have hI := HI.out
      rw [List.take_of_length_le (by rw [HLL.out]; exact Nat.le_refl _)] at hI
      have HJ := Lib.hid hI
      have hsl : (segL 1 a old).length = i := by rw [segL_len, HLL.out]
      have HSL := Lib.hid hsl
      obtain ⟨sl, hsl2⟩ : ∃ sl, segL 1 a old = sl := ⟨_, rfl⟩
      have HS2 : Hid (segL 1 a (nodesL (flatN (lastL ps).dropLast)) = sl) := by
        unfold Hid
        rw [HQ.out, List.dropLast_concat, HOLD.out, hsl2]
      rw [hsl2] at HJ HSL
      have hf := isN_ok HOK.out.1
      have HROW : Hid (∀ W : World, OwnA W w3.heap.size (.slice A9 i c9) sl → W.ownsRow w3.heap.size 34 16 (.slice A9 i c9) i (flatA sl)) := fun W h => by
        have := h
        unfold OwnA at this
        rw [HSL.out] at this
        exact this
      have h63 : Hid (i + 1 ≤ maxLen) := by unfold Hid maxLen; omega
      have h47 : Hid ((i + 1) * 16 ≤ 140737488355328) := by unfold Hid; omega
      have h63b : Hid (i + 2 ≤ maxLen) := by unfold Hid maxLen; omega
      have h47b : Hid ((i + 2) * 16 ≤ 140737488355328) := by unfold Hid; omega
      clear hI HI hsl hsl2
      by_cases hs0 : s = 0
      · have ts : (s == 0) = true := by simpa using hs0
        have HSZ := Lib.hid hs0
        have HSEG := Lib.hid (seg_put f 3 a w3.heap.size (.slice A9 i c9) sl w3 wr HJ.out.1 HJ.out.2.size HJ.out.2 (by omega) (by omega) hax)
        clear hs0
        go_wp2_with (first
          | (go_at_call 26; refine HSEG.out.mono ?_; rintro e w4 ⟨p, q, x0', x1', x2', x3', rfl, O4, S4, B4, N4⟩)
          | (at_builtin; refine wpList_append_own _ rfl _ _ 27 rfl w3.heap.size 34 i0 _ 16 16 Try.underlying27 HZ.out.1 HZ.out.2.1 HZ.out.2.2.1 HZ.out.2.2.2 rfl (Nat.succ_pos 15) _ i (flatA sl) rfl (HROW.out _ O4.out) ⟨w4.heap.size, 0, none⟩ 1 1 (Seg.cells (f, 3, a)) rfl rfl N4.out segs_one h63.out h47.out S4.out ?_; intro v' w5 hown hgrow _; have G1 := Lib.hid hown; have G2 := Lib.hid hgrow; clear hown hgrow)
          | fail)
        go_ret
        have he : synL ps (u32w x) = sl ++ [(f, 3, a)] := by
          unfold synL
          rw [HFS.out, show u32w x = a from ha, HS2.out]
          simp only
          rw [if_neg (by simpa using t0), if_pos HSZ.out]
        refine ⟨_, rfl, ?_, H3.out.trans ((B4.out.grown G2.out S4.out (fun k hk => (O4.out.lt k hk).1)).mono H3.out.size)⟩
        rw [he]
        exact (OwnA.step G1.out (by rw [HSL.out])).base H3.out.size
      · have ts : (s == 0) = false := by simpa using hs0
        have HSZ := Lib.hid hs0
        have hsn := isN_ok (HOK.out.2 hs0)
        clear hs0
        have HSEG := Lib.hid (seg_first f 2 a w3.heap.size (.slice A9 i c9) sl w3 wr HJ.out.1 HJ.out.2.size HJ.out.2 (by omega) (by omega) hax)
        have HSEG2 : Hid (∀ (p q x0 x1 x2 x3 : Int) (W : World) (h0 : Hid ((#[.int .u8 253, .int .u8 108, .int .u8 0, .int .u8 98, .int .u8 0, .int .u8 0, .int .u8 0, .int .u8 0, .int .u8 p, .int .u8 q, .int .u8 2, .int .u8 0, .int .u8 x0, .int .u8 x1, .int .u8 x2, .int .u8 x3] : Array Value).toList = Seg.cells (f, 2, a))) (h1 : Hid (OwnA W w3.heap.size (.slice A9 i c9) sl ∧ w3.heap.size ≤ W.heap.size ∧ Below w3.heap.size w3 W)), _) := fun p q x0 x1 x2 x3 W h0 h1 => seg_second p q 2 x0 x1 x2 x3 (f, 2, a) h0.out s 3 a w3.heap.size (.slice A9 i c9) sl w3 W h1.out.1 h1.out.2.1 h1.out.2.2 (by omega) (by omega) hax
        have hl2 : Hid ((Seg.cells (f, 2, a) ++ Seg.cells (s, 3, a)).length = 2 * 16) := rfl
        go_wp2_with fail
        refine HSEG.out.mono ?_; rintro e w4 ⟨p, q, x0', x1', x2', x3', rfl, LT, O4⟩
        go_wp2_with fail
        refine (HSEG2.out _ _ _ _ _ _ _ LT O4).mono ?_; rintro e w5 ⟨p', q', y0', y1', y2', y3', rfl, O5, S5, B5, N5⟩
        go_wp2_with (first
          | (at_builtin; refine wpList_append_own _ rfl _ _ 27 rfl w3.heap.size 34 i0 _ 16 16 Try.underlying27 HZ.out.1 HZ.out.2.1 HZ.out.2.2.1 HZ.out.2.2.2 rfl (Nat.succ_pos 15) _ i (flatA sl) rfl (HROW.out _ O5.out) ⟨w5.heap.size, 0, none⟩ 2 2 (Seg.cells (f, 2, a) ++ Seg.cells (s, 3, a)) rfl hl2.out N5.out two_segs h63b.out h47b.out S5.out ?_; intro v' w6 hown hgrow _; have G1 := Lib.hid hown; have G2 := Lib.hid hgrow; clear hown hgrow)
          | fail)
        go_ret
        have he : synL ps (u32w x) = sl ++ [(f, 2, a), (s, 3, a)] := by
          unfold synL
          rw [HFS.out, show u32w x = a from ha, HS2.out]
          simp only
          rw [if_neg (by simpa using t0), if_neg HSZ.out]
        refine ⟨_, rfl, ?_, H3.out.trans ((B5.out.grown G2.out S5.out (fun k hk => (O5.out.lt k hk).1)).mono H3.out.size)⟩
        rw [he]
        exact (OwnA.step2 G1.out (by rw [HSL.out])).base H3.out.size
end Go.Proofs.Ytikceomnkkpljaa
