/-
  The walks of heap.Init, heap.Push and heap.Pop. No condition beyond a row of a machine's size.
-/
import Derived.Test.YthcfgchlaagfkaaDowns
namespace Go.Proofs.Ythcfgchlaagfkaa
open Go.ChangeShapes Go.WideShapes Go.ChangeAt Go.RowKit
set_option linter.unusedVariables false
set_option linter.unusedSimpArgs false

theorem split_last (l : List It) (n : Nat) (h : l.length = n + 1) : ∃ l0, l = l0 ++ [gx l n] ∧ l0.length = n := by
  refine ⟨l.take n, ?_, by simp [h]⟩
  have hl : n < l.length := by omega
  rw [gx_at l n hl]
  have h1 := List.take_append_drop n l
  rw [List.drop_eq_getElem_cons hl, List.drop_eq_nil_of_le (by omega)] at h1
  exact h1.symm
theorem gx_left (l : List It) (x : It) (k : Nat) (h : k < l.length) : gx (l ++ [x]) k = gx l k := by
  rw [gx_at _ _ (by simp; omega), gx_at _ _ h, List.getElem_append_left h]
theorem HeapFrom.cut {l : List It} {x : It} (h : HeapFrom (l ++ [x]) 0 l.length) : IsHeap l := fun k h0 hk _ => by
  have := h k h0 hk (Nat.zero_le _)
  rwa [gx_left l x k hk, gx_left l x (par k) (by unfold par; omega)] at this
theorem HeapFrom.half (l : List It) (n : Nat) : HeapFrom l (n / 2) n := fun k h0 hk h => by
  unfold par at h; omega
theorem IsHeap.more {l : List It} (h : IsHeap l) (x : It) : AlmostUp (l ++ [x]) l.length := by
  refine ⟨fun k h0 hk hne => ?_, fun k h0 hk hp _ => ?_⟩
  · have hk2 : k < l.length := by simp at hk; omega
    rw [gx_left l x k hk2, gx_left l x (par k) (by unfold par; omega)]
    exact h k h0 hk2 (Nat.zero_le _)
  · simp at hk; unfold par at hp; omega
theorem IsHeap.first {l : List It} {n : Nat} (h : IsHeap l) (hn : l.length = n + 1) : AlmostDown (swapL l 0 n (l[0]'(by omega)) (l[n]'(by omega))) 0 0 n := by
  refine AlmostDown.start fun k h0 hk hp => ?_
  have hg := fun m => swapL_gx l 0 n m (by omega) (by omega)
  rw [hg, hg, if_neg (by unfold par; omega), if_neg (by omega), if_neg (by omega), if_neg (by omega)]
  exact h k h0 (by omega) (Nat.zero_le _)
section
variable {w w' : World} {B Q f : Nat} {T : TypeId} {cs : Array Value} {v : Value} {l : List It}
set_option maxHeartbeats 1600000 in
theorem init_any (h : At w B Q f T cs v l) (hm : l.length ≤ 1000001) :
    Calls Try.prog 22 #[.iface 49 (.pointer (some ⟨Q, f, none⟩))] w fun e w' => (∃ r, e = .returned r) ∧ ∃ l', Mend w B Q f T cs v l w' l' ∧ IsHeap l' := by
  obtain ⟨A, c, rfl⟩ := h.row.form
  obtain ⟨n, hn⟩ : ∃ n, l.length = n := ⟨_, rfl⟩
  rw [hn] at h hm ⊢
  have H0 := Lib.hid h
  have HN := Lib.hid hn
  have x0 := h.holds
  have hml := meth_len ⟨Q, f, none⟩ A n c w x0
  have HL := Lib.hid (len_any A n c w)
  have e1 : wrap64 ((n : Int) / 2 - 1) = (n : Int) / 2 - 1 := IntWalk.wrap64_in _ (by omega)
  have e2 : IntKind.i64.wrap ((n : Int) / 2 - 1) = (n : Int) / 2 - 1 := IntWalk.i64_in _ (by omega)
  have e3 : Int.tdiv (n : Int) 2 = (n : Int) / 2 := Int.tdiv_eq_ediv_of_nonneg (by omega)
  have e4 : wrap64 ((n : Int) / 2) = (n : Int) / 2 := IntWalk.wrap64_in _ (by omega)
  have e5 : IntKind.i64.wrap ((n : Int) / 2) = (n : Int) / 2 := IntWalk.i64_in _ (by omega)
  clear h hn
  go_enter Try.func22, Try.ntmps22
  go_wp2_with fail
  refine HL.out.mono ?_; rintro e w1 ⟨rfl, rfl⟩
  go_wp2_with fail
  go_loopg [3] (n / 2 + 1) (fun gk s3 wr => ∃ q : Nat, s3 = .int .i64 ((q : Int) - 1) ∧ gk = q + 1 ∧ q ≤ n / 2 ∧ Hid (∃ l', Mend w B Q f T cs (.slice A n c) l wr l' ∧ HeapFrom l' q n))
  case atStart => exact ⟨n / 2, by rw [show ((n / 2 : Nat) : Int) = (n : Int) / 2 by omega], rfl, by omega, l, Mend.refl H0.out, HeapFrom.half l n⟩
  case round =>
    obtain ⟨q, rfl, rfl, hq, l', HM, HF⟩ := hrel
    have hl := HM.len.trans HN.out
    by_cases h0 : q = 0
    · subst h0
      have HME := Lib.hid HM
      have HFE := Lib.hid HF
      have HLE := Lib.hid hl
      clear HM HF hl
      go_wp2_with fail
      go_end0
      refine ⟨⟨_, rfl⟩, l', HME.out, ?_⟩
      unfold IsHeap
      rw [HLE.out]
      exact HFE.out
    · have b1 : (0 : Int) ≤ (q : Int) - 1 := by omega
      have f1 : wrap64 ((q : Int) - 1 - 1) = (q : Int) - 1 - 1 := IntWalk.wrap64_in _ (by omega)
      have f2 : IntKind.i64.wrap ((q : Int) - 1 - 1) = (q : Int) - 1 - 1 := IntWalk.i64_in _ (by omega)
      have HDN := Lib.hid (down_any HM.at_ (q - 1) n (by omega) (by omega) (AlmostDown.start (by rw [show q - 1 + 1 = q by omega]; exact HF)) (by omega))
      rw [show ((q - 1 : Nat) : Int) = (q : Int) - 1 by omega] at HDN
      have HME := Lib.hid HM
      clear HM HF hl
      go_wp2_with fail
      refine HDN.out.mono ?_; rintro e w2 ⟨⟨b, rfl⟩, l2, h2, h3, _⟩
      have HM2 : Hid (Mend w B Q f T cs (.slice A n c) l w2 l2) := ⟨h2.at_, h2.perm.trans HME.out.perm, HME.out.chg.trans h2.chg (fun _ _ e => e)⟩
      have H3 := Lib.hid h3
      clear h2 h3
      go_wp2_with fail
      go_roundg q
      case rel => exact ⟨q - 1, by rw [show ((q - 1 : Nat) : Int) = (q : Int) - 1 by omega], by omega, by omega, l2, HM2.out, H3.out⟩
      case measure => omega
set_option maxHeartbeats 1600000 in
theorem hpush_any (p : It) (h : At w B Q f T cs v l) (hh : IsHeap l) (hm : l.length ≤ 1000000) :
    Calls Try.prog 24 #[.iface 49 (.pointer (some ⟨Q, f, none⟩)), .iface 51 (.agg #[.int .i64 p.at_, .int .i64 p.id, .int .i64 p.seq])] w fun e w' => (∃ r, e = .returned r) ∧ ∃ v' l', At w' B Q f T (cs.setIfInBounds f v') v' l' ∧ IsHeap l' ∧ l'.Perm (l ++ [p]) ∧ Chg (OwnQ Q v) w w' := by
  have HP := Lib.hid (itemsPush_any p h hm)
  obtain ⟨n, hn⟩ : ∃ n, l.length = n := ⟨_, rfl⟩
  have HN := Lib.hid hn
  have HAU : Hid (AlmostUp (l ++ [p]) n) := by unfold Hid; rw [← hn]; exact hh.more p
  have x0 := h.holds
  rw [hn] at HP hm
  have e1 : wrap64 ((n : Int) + 1 - 1) = (n : Int) := by rw [show (n : Int) + 1 - 1 = n by omega]; exact IntWalk.wrap64_in _ (by omega)
  have e2 : IntKind.i64.wrap ((n : Int) + 1 - 1) = (n : Int) := by rw [show (n : Int) + 1 - 1 = n by omega]; exact IntWalk.i64_in _ (by omega)
  clear h hh hn
  go_enter Try.func24, Try.ntmps24
  go_wp2_with fail
  refine HP.out.mono ?_; rintro e w1 ⟨A', c', ⟨r, rfl⟩, h1, h2, h3⟩
  have x1 := h1.holds
  have hml := meth_len ⟨Q, f, none⟩ A' (n + 1) c' w1 x1
  have HL := Lib.hid (len_any A' (n + 1) c' w1)
  have HU := Lib.hid (up_any h1 n (by simp [HN.out]) HAU.out (by simp [HN.out]; omega))
  have H1 := Lib.hid h1
  have H2 := Lib.hid h2
  have H3 := Lib.hid h3
  clear h1 h2 h3
  go_wp2_with fail
  refine HL.out.mono ?_; rintro e w2 ⟨rfl, rfl⟩
  go_wp2_with fail
  refine HU.out.mono ?_; rintro e w3 ⟨⟨r3, rfl⟩, l', h4, h5⟩
  have H4 := Lib.hid h4
  clear h4
  go_wp2_with fail
  go_end0
  exact ⟨⟨_, rfl⟩, _, l', H4.out.at_, h5, H4.out.perm, H2.out.trans H4.out.chg (fun k hk e => Or.inr (H3.out k hk e))⟩
set_option maxHeartbeats 1600000 in
theorem hpop_any {n : Nat} (h : At w B Q f T cs v l) (hh : IsHeap l) (hn : l.length = n + 1) (hm : n ≤ 1000000) :
    Calls Try.prog 19 #[.iface 49 (.pointer (some ⟨Q, f, none⟩))] w fun e w' => e = .returned (.iface 51 (.agg #[.int .i64 (gx l 0).at_, .int .i64 (gx l 0).id, .int .i64 (gx l 0).seq])) ∧ ∃ g c l', v = .slice (some ⟨g, 0, none⟩) (n + 1) c ∧ l'.length = n ∧ At w' B Q f T (cs.setIfInBounds f (.slice (some ⟨g, 0, none⟩) n c)) (.slice (some ⟨g, 0, none⟩) n c) l' ∧ IsHeap l' ∧ (l' ++ [gx l 0]).Perm l ∧ Chg (OwnQ Q v) w w' := by
  obtain ⟨A, c, rfl⟩ := h.row.form
  rw [hn] at h ⊢
  obtain ⟨g, rfl, hc, hc2⟩ := h.row.some_ hn (by omega)
  have x0 := h.holds
  have hml := meth_len ⟨Q, f, none⟩ (some ⟨g, 0, none⟩) (n + 1) c w x0
  have hms := meth_swap ⟨Q, f, none⟩ (some ⟨g, 0, none⟩) (n + 1) c w x0
  have HL := Lib.hid (len_any (some ⟨g, 0, none⟩) (n + 1) c w)
  have HS := Lib.hid (swap_any g (n + 1) c B 0 n l w h.row hn (by omega) (by omega) (by omega))
  have HAD := Lib.hid (hh.first hn)
  have HMS : Hid (∀ w2, Row w2 B (.slice (some ⟨g, 0, none⟩) (n + 1) c) (swapL l 0 n (l[0]'(by omega)) (l[n]'(by omega))) → Chg (fun b => b = g) w w2 → Mend w B Q f T cs (.slice (some ⟨g, 0, none⟩) (n + 1) c) l w2 (swapL l 0 n (l[0]'(by omega)) (l[n]'(by omega)))) :=
    fun w2 h1 h2 => (Mend.refl h).swap (by omega) (by omega) h1 (h2.mono (fun b _ e => by rw [e]; rfl))
  have hlast : gx (swapL l 0 n (l[0]'(by omega)) (l[n]'(by omega))) n = gx l 0 := by
    rw [swapL_gx l 0 n n (by omega) (by omega), if_pos rfl]
  have HLA := Lib.hid hlast
  have hlen := (swapL_len l 0 n (l[0]'(by omega)) (l[n]'(by omega))).trans hn
  have HLN := Lib.hid hlen
  generalize swapL l 0 n (l[0]'(by omega)) (l[n]'(by omega)) = l1 at *
  have e1 : wrap64 ((n : Int) + 1 - 1) = (n : Int) := by rw [show (n : Int) + 1 - 1 = n by omega]; exact IntWalk.wrap64_in _ (by omega)
  have e2 : IntKind.i64.wrap ((n : Int) + 1 - 1) = (n : Int) := by rw [show (n : Int) + 1 - 1 = n by omega]; exact IntWalk.i64_in _ (by omega)
  rw [show ((0 : Nat) : Int) = 0 from rfl] at HS
  clear h hh hlast hlen
  go_enter Try.func19, Try.ntmps19
  go_wp2_with fail
  refine HL.out.mono ?_; rintro e w1 ⟨rfl, rfl⟩
  go_wp2_with fail
  refine HS.out.mono ?_; rintro e w2 ⟨⟨r, rfl⟩, h1, h2⟩
  have M1 := Lib.hid (HMS.out w2 h1 h2)
  have HD := Lib.hid (down_any M1.out.at_ 0 n (by omega) (by rw [HLN.out]; omega) HAD.out (by rw [HLN.out]; omega))
  rw [show ((0 : Nat) : Int) = 0 from rfl] at HD
  clear h1 h2
  go_wp2_with fail
  refine HD.out.mono ?_; rintro e w3 ⟨⟨b, rfl⟩, l2, h3, h4, h5⟩
  have hl2 : l2.length = n + 1 := h3.len.trans HLN.out
  obtain ⟨l0, hl0, hl0n⟩ := split_last l2 n hl2
  rw [h5 n (Nat.le_refl _), HLA.out] at hl0
  have hIH : IsHeap l0 := by
    rw [hl0, ← hl0n] at h4
    exact h4.cut
  have hAt := h3.at_
  have hper : (l0 ++ [gx l 0]).Perm l := by rw [← hl0]; exact h3.perm.trans M1.out.perm
  have hchg : Chg (OwnQ Q (.slice (some ⟨g, 0, none⟩) (n + 1) c)) w w3 := (M1.out.chg.trans h3.chg (fun _ _ e => e)).mono (fun k _ e => Or.inr e)
  rw [hl0] at hAt
  have HPO := Lib.hid (itemsPop_any hAt hl0n hm)
  have RES := Lib.hid (And.intro hl0n (And.intro hIH (And.intro hper hchg)))
  clear h3 h4 h5 hl2 hl0 hl0n hIH hAt hper hchg
  go_wp2_with fail
  refine HPO.out.mono ?_; rintro e w4 ⟨g', c', hv, rfl, h6, h7⟩
  injection hv with hv1 hv2 hv3
  injection hv1 with hv1
  injection hv1 with hv1
  subst hv1 hv3
  have H6 := Lib.hid h6
  have H7 := Lib.hid h7
  clear h6 h7
  go_wp2_with fail
  go_ret
  exact ⟨rfl, g, c, l0, rfl, RES.out.1, H6.out, RES.out.2.1, RES.out.2.2.1, RES.out.2.2.2.trans H7.out (fun k _ e => e)⟩
end
end Go.Proofs.Ythcfgchlaagfkaa
