/-
  The walks of the document's answers: Drop, Touch, Ints. No condition.
-/
import Derived.Test.YthaaonafpbodmaaAll
namespace Go.Proofs.Ythaaonafpbodmaa
open Go.ChangeShapes Go.WideShapes Go.ChangeAt Go.RowKit
set_option linter.unusedVariables false
set_option linter.unusedSimpArgs false

theorem OwnI.chg {w v : World} {B : Nat} {x : Value} {zs : List Nat} {S : Nat → Prop} (h : OwnI w B x zs) (hc : Chg S w v) (hS : ∀ k, B ≤ k → ¬ S k) : OwnI v B x zs := by
  refine ⟨h.1, h.2.imp id fun ⟨g, cap, cur, h1, h2, h3, h4⟩ => ⟨g, cap, cur, h1, h2, (hc.block g (lt_of_block h3) (hS g h2)).trans h3, h4⟩⟩
theorem OwnI.base {w : World} {B B' : Nat} {x : Value} {zs : List Nat} (h : OwnI w B x zs) (hb : B' ≤ B) : OwnI w B' x zs := by
  refine ⟨h.1, h.2.imp id fun ⟨g, cap, cur, h1, h2, h3⟩ => ⟨g, cap, cur, h1, by omega, h3⟩⟩
/-- The numbers of a slice: element i. -/
def Nums (w : World) (A : Option Addr) (n : Nat) (zs : List Nat) : Prop := n = zs.length ∧ (0 < n → ∃ g o, A = some ⟨g, o, none⟩ ∧ g < w.heap.size ∧ ∀ i, i < n → w.cell? ⟨g, o + i, none⟩ = some (.int .i64 (zs.getD i 0 : Nat)))
theorem OwnI.nums {w : World} {B : Nat} {A : Option Addr} {n c : Nat} {zs : List Nat} (h : OwnI w B (.slice A n c) zs) : Nums w A n zs := by
  rcases h.2 with ⟨hv, h0⟩ | ⟨g, cap, cur, hv, hg, hh, hcap, hmax, hsz, htk⟩
  · injection hv with _ h1
    exact ⟨by omega, fun h => by omega⟩
  injection hv with hA h1 h2
  subst hA h1 h2
  refine ⟨rfl, fun _ => ⟨g, 0, rfl, lt_of_block hh, fun i hi => ?_⟩⟩
  rw [cell_of_row w g (0 + i) cur 3 (0, 0) hh, Nat.zero_add]
  have h1 : (cur.toList.take (zs.length * 1))[i]? = some (.int .i64 (zs.getD i 0 : Nat)) := by
    rw [htk]; simp [is, hi]
  rw [List.getElem?_take, if_pos (by omega)] at h1
  simpa using h1
theorem Nums.later {w v : World} {A : Option Addr} {n : Nat} {zs : List Nat} (h : Nums w A n zs) (hb : Below w.heap.size w v) : Nums v A n zs :=
  ⟨h.1, fun hn => by
    obtain ⟨g, o, rfl, hg, hc⟩ := h.2 hn
    exact ⟨g, o, rfl, Nat.lt_of_lt_of_le hg hb.size, fun i hi => (hb.cell (p := ⟨g, _, none⟩) hg).trans (hc i hi)⟩⟩
/-- Without a number, as numbers of 64 bits. -/
def lessZ (l : List Nat) (x : Int) : List Nat := l.filter (fun (j : Nat) => decide ((j : Int) ≠ x))
theorem lessZ_len (l : List Nat) (x : Int) : (lessZ l x).length ≤ l.length := List.length_filter_le _ _
theorem lessZ_nat (l : List Nat) (i : Nat) : lessZ l i = less l i := by
  unfold lessZ less
  congr 1
  funext j
  simp only [ne_eq, Int.natCast_inj]
theorem lessZ_off (l : List Nat) (x : Int) (h : x < 0) : lessZ l x = l := by
  unfold lessZ
  exact List.filter_eq_self.2 (fun j hj => by simp; omega)
theorem lessZ_snoc (p : List Nat) (b : Nat) (x : Int) : lessZ (p ++ [b]) x = if (b : Int) = x then lessZ p x else lessZ p x ++ [b] := by
  unfold lessZ
  rw [List.filter_append]
  by_cases h : (b : Int) = x <;> simp [h]

theorem refDrop_any (A : Option Addr) (n c : Nat) (l : List Nat) (x : Int) (w : World) (h : Nums w A n l) (hl : l.length ≤ 1000) :
    Calls Try.prog 10 #[.slice A n c, .int .i64 x] w fun e w' => ∃ v, e = .returned (.tuple #[v, .bool (decide ((lessZ l x).length < l.length))]) ∧ OwnI w' w.heap.size v (lessZ l x) ∧ Below w.heap.size w w' := by
  obtain ⟨i0, hi, hz0, hz1, hz2⟩ := info_parts info3
  have HZ := Lib.hid (And.intro hi (And.intro hz0 (And.intro hz1 hz2)))
  have HH := Lib.hid h
  have hnl := h.1
  have HNL := Lib.hid hnl
  have hn : n ≤ 1000 := by omega
  clear h hi hz0 hz1 hz2 hnl hl
  go_enter Try.func10, Try.ntmps10
  go_wp2_with fail
  go_loopg [6, 7] (n + 1) (fun gk s6 s7 wr => ∃ (i c' : Nat) (A' : Option Addr), s6 = .slice A' (lessZ (l.take i) x).length c' ∧ s7 = .int .i64 i ∧ gk + i = n + 1 ∧ i ≤ n ∧ Hid (Below w.heap.size w wr ∧ OwnI wr w.heap.size (.slice A' (lessZ (l.take i) x).length c') (lessZ (l.take i) x)))
  case atStart => exact ⟨0, 0, none, rfl, rfl, by omega, by omega, Below.refl _ _, OwnI.nil _ _⟩
  case round =>
    obtain ⟨i, c', A', rfl, rfl, hgi, hin, HI⟩ := hrel
    by_cases hlt : i < n
    · obtain ⟨g, o, rfl, hg, hc⟩ := HH.out.2 (by omega)
      have hcx := (HI.out.1.cell (p := ⟨g, _, none⟩) hg).trans (hc i hlt)
      obtain ⟨b, hb⟩ : ∃ b, l.getD i 0 = b := ⟨_, rfl⟩
      rw [hb] at hcx
      have hs : l.take (i + 1) = l.take i ++ [b] := by
        rw [List.take_add_one, ← hb, List.getD_eq_getElem?_getD, List.getElem?_eq_getElem (by have := HNL.out; omega)]; rfl
      have hls := lessZ_snoc (l.take i) b x
      rw [← hs] at hls
      have hll : (lessZ (l.take i) x).length ≤ 1000 := by have := lessZ_len (l.take i) x; rw [List.length_take] at this; omega
      have HLS := Lib.hid hls
      clear hb hs hls hc
      by_cases hbx : (b : Int) = x
      · rw [if_pos hbx] at HLS
        have t1 : ((b : Int) != x) = false := by simpa using hbx
        have hx := Lib.hid hbx
        clear hbx
        go_wp2_with fail
        go_roundg (gk - 1)
        case rel => exact ⟨i + 1, c', A', by rw [HLS.out], by go_num, by omega, by omega, by rw [HLS.out]; exact HI.out⟩
        case measure => omega
      · rw [if_neg hbx] at HLS
        have t1 : ((b : Int) != x) = true := by simpa using hbx
        have hx := Lib.hid hbx
        clear hbx
        generalize lessZ (l.take i) x = p at *
        go_wp2_with (at_builtin; refine wpList_append_own _ rfl _ _ 26 rfl w.heap.size 3 i0 _ 1 8 Try.underlying26 HZ.out.1 HZ.out.2.1 HZ.out.2.2.1 HZ.out.2.2.2 rfl (by decide) _ p.length (is p) rfl (World.ownsRow.alloc HI.out.2 _) ⟨wr.heap.size, 0, none⟩ 1 1 [.int .i64 b] rfl rfl ?c1 ?c2 ?c3 ?c4 ?c5 ?_)
        case c1 => exact cell1 (heap_alloc_new wr _)
        case c2 => intro u hu; simp at hu; subst hu; rfl
        case c3 => unfold maxLen; omega
        case c4 => omega
        case c5 => have := HI.out.1.size; simp; omega
        intro v' w2 hown hgrow _
        have Q := stepI (ys := [b]) (w := w) (HI.out.2.alloc _) (HI.out.1.alloc HI.out.1.size _) (by have := HI.out.1.size; simp; omega) rfl hown hgrow
        obtain ⟨A2, c2, hv⟩ := Q.1.form
        have HQ := Lib.hid Q
        rw [hv]
        have HV := Lib.hid hv
        clear Q hown hgrow hv
        go_wp2_with fail
        go_roundg (gk - 1)
        case rel => exact ⟨i + 1, c2, A2, by rw [HLS.out], by go_num, by omega, by omega, by rw [HLS.out]; exact ⟨HQ.out.2, HV.out ▸ HQ.out.1⟩⟩
        case measure => omega
    · obtain rfl : i = n := by omega
      have ht : l.take i = l := List.take_of_length_le (by have := HNL.out; omega)
      rw [ht] at HI ⊢
      have HNL2 := HNL.out
      clear ht
      go_wp2_with fail
      go_returns
      refine ⟨_, ?_, HI.out.2, HI.out.1⟩
      rw [← HNL2]
      first | rfl | simp
theorem refTouch_any (A : Option Addr) (n c : Nat) (l : List Nat) (i : Nat) (w : World) (h : Nums w A n l) (hl : l.length ≤ 1000) :
    Calls Try.prog 8 #[.slice A n c, .int .i64 i] w fun e w' => ∃ v, e = .returned v ∧ OwnI w' w.heap.size v (i :: less l i) ∧ Below w.heap.size w w' := by
  obtain ⟨i0, hi, hz0, hz1, hz2⟩ := info_parts info3
  have HZ := Lib.hid (And.intro hi (And.intro hz0 (And.intro hz1 hz2)))
  have HH := Lib.hid h
  clear h hi hz0 hz1 hz2
  have HC := Lib.hid (refDrop_any A n c l i w HH.out hl)
  rw [lessZ_nat] at HC
  have hll : (less l i).length ≤ 1000 := by rw [← lessZ_nat]; have := lessZ_len l i; omega
  generalize less l i = p at *
  go_enter Try.func8, Try.ntmps8
  go_wp2_with fail
  refine HC.out.mono ?_; rintro e w1 ⟨v, rfl, ho, hb⟩
  have HB := Lib.hid hb
  have hw1 := hb.size
  have HP := Lib.hid (show OwnI (w1.alloc (.cells #[.int .i64 i] 3)) w.heap.size (.slice (some ⟨w1.heap.size, 0, none⟩) 1 1) [i] from World.ownsRow_lit _ _ 1 hw1 (by unfold maxLen; omega) rfl)
  have HBA := Lib.hid (hb.alloc hw1 (.cells #[.int .i64 i] 3))
  rcases ho.2 with ⟨hv, h0⟩ | ⟨g2, cap2, cur, hv, _⟩
  · have hp : p = [] := List.eq_nil_of_length_eq_zero h0
    subst hp hv
    clear ho hb HC h0
    go_wp2_with (at_builtin; refine wpList_append_own_none rfl _ _ 26 rfl w.heap.size 3 i0 1 Try.underlying26 HZ.out.1 _ 1 (is [i]) rfl HP.out rfl ?_)
    go_wp2
    go_ret
    exact ⟨_, rfl, HP.out, HBA.out⟩
  · subst hv
    have HO := Lib.hid (ho.later (B := w.heap.size) (v := w1.alloc (.cells #[.int .i64 i] 3)) ((Below.refl _ _).alloc (Nat.le_refl _) _))
    clear ho hb HC
    go_wp2_with (at_builtin; refine wpList_append_own _ rfl _ _ 26 rfl w.heap.size 3 i0 _ 1 8 Try.underlying26 HZ.out.1 HZ.out.2.1 HZ.out.2.2.1 HZ.out.2.2.2 rfl (by decide) _ 1 (is [i]) rfl HP.out ⟨g2, 0, none⟩ p.length cap2 (is p) rfl ?c0 ?c1 ?c2 ?c3 ?c4 ?c5 ?_)
    case c0 => simp [is]
    case c1 => exact World.ownsRow.cells HO.out rfl
    case c2 => intro u hu; simp [is] at hu; obtain ⟨z, _, rfl⟩ := hu; rfl
    case c3 => unfold maxLen; omega
    case c4 => omega
    case c5 => simp; omega
    intro v' w2 hown hgrow _
    have Q := stepI (zs := [i]) (ys := p) (w := w) HP.out HBA.out (by simp; omega) rfl hown hgrow
    have HQ := Lib.hid Q
    clear Q hown hgrow
    go_wp2
    go_ret
    exact ⟨_, rfl, HQ.out⟩
theorem ints_same (A A' : Option Addr) (n c n' c' : Nat) (l : List Nat) (w : World) (h : Nums w A n l) (h' : Nums w A' n' l) (hl : l.length ≤ 1000) :
    Calls Try.prog 12 #[.slice A n c, .slice A' n' c'] w fun e w' => e = .returned (.bool true) ∧ Below w.heap.size w w' := by
  obtain ⟨e1, h⟩ := h
  obtain ⟨e2, h'⟩ := h'
  obtain rfl : n' = n := by omega
  have hn : n' ≤ 1000 := by omega
  have HH := Lib.hid h
  have HG := Lib.hid h'
  clear h h' e1 e2 hl
  go_enter Try.func12, Try.ntmps12
  go_wp2_with fail
  go_loopg [5] (n' + 1) (fun gk s5 wr => ∃ i : Nat, s5 = .int .i64 i ∧ gk + i = n' + 1 ∧ i ≤ n' ∧ Hid (Below w.heap.size w wr))
  case atStart => exact ⟨0, rfl, by omega, by omega, Below.refl _ _⟩
  case round =>
    obtain ⟨i, rfl, hgi, hin, HI⟩ := hrel
    by_cases hlt : i < n'
    · obtain ⟨g, o, rfl, hg, hc⟩ := HH.out (by omega)
      obtain ⟨g', o', rfl, hg', hc'⟩ := HG.out (by omega)
      have x1 := (HI.out.cell (p := ⟨g, _, none⟩) hg).trans (hc i hlt)
      have x2 := (HI.out.cell (p := ⟨g', _, none⟩) hg').trans (hc' i hlt)
      have b1 : (0 : Int) ≤ (i : Int) := by omega
      have b2 : (i : Int) < (n' : Int) := by omega
      clear hc hc'
      generalize l.getD i 0 = b at *
      go_wp2_with fail
      go_region
      all_goals
        go_wp2_with fail
        go_roundg (gk - 1)
        case rel => exact ⟨i + 1, by go_num, by omega, by omega, HI.out.drew⟩
        case measure => omega
    · obtain rfl : i = n' := by omega
      go_wp2_with fail
      go_ret
      exact ⟨ret_bool rfl, HI.out⟩
end Go.Proofs.Ythaaonafpbodmaa
