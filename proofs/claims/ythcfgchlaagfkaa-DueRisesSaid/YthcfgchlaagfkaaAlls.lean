/-
  The walk of All. No condition beyond a row of a machine's size.
-/
import Derived.Test.YthcfgchlaagfkaaClone
namespace Go.Proofs.Ythcfgchlaagfkaa
open Go.ChangeShapes Go.WideShapes Go.ChangeAt Go.RowKit
set_option linter.unusedVariables false
set_option linter.unusedSimpArgs false

def flat2 (l : List (Int × Int)) : List Value := l.flatMap (fun p => [.int .i64 p.1, .int .i64 p.2])
theorem flat2_len (l : List (Int × Int)) : (flat2 l).length = l.length * 2 := by
  induction l with
  | nil => rfl
  | cons p t ih => simp [flat2] at *; omega
theorem flat2_append (a b : List (Int × Int)) : flat2 (a ++ b) = flat2 a ++ flat2 b := by simp [flat2]
theorem flat2_at : ∀ (l : List (Int × Int)) (i : Nat) (h : i < l.length), (flat2 l)[i * 2]? = some (.int .i64 (l[i]).1) ∧ (flat2 l)[i * 2 + 1]? = some (.int .i64 (l[i]).2)
  | p :: t, 0, _ => ⟨rfl, rfl⟩
  | p :: t, i + 1, h => by
    have r := flat2_at t i (by simpa using h)
    have e : flat2 (p :: t) = .int .i64 p.1 :: .int .i64 p.2 :: flat2 t := rfl
    rw [e, show (i + 1) * 2 = i * 2 + 1 + 1 by omega, show i * 2 + 1 + 1 + 1 = (i * 2 + 1) + 1 + 1 by omega]
    exact r
theorem info32 : (Try.prog.info? 32).map (fun i => (i.zero, i.size, i.bytes)) = some (some (.agg #[.int .i64 0, .int .i64 0]), 2, 16) := by kernel_rfl
theorem cells2 {w : World} {t : TypeId} {x y : Value} : ∀ j u, [x, y][j]? = some u → (w.alloc (.cells #[x, y] t)).cell? ((⟨w.heap.size, 0, none⟩ : Addr).add j) = some u := by
  intro j u hj
  have h : Blk (w.alloc (.cells #[x, y] t)) w.heap.size t #[x, y] := Blk.new _ _ _
  rw [Addr.add_mid, Nat.zero_add, h.cell]
  simpa using hj
theorem one2 {a b : Int} : ∀ u ∈ [Value.int .i64 a, .int .i64 b], u.oneCell' = true := by
  intro u hu
  simp at hu
  rcases hu with rfl | rfl <;> rfl
def pr (x : It) : Int × Int := (x.at_, x.id)
theorem At.kept {w w' : World} {B Q f : Nat} {T : TypeId} {cs : Array Value} {v : Value} {l : List It} {S : Nat → Prop} (h : At w B Q f T cs v l) (hc : Chg S w w') (hQ : ¬ S Q) (hv : ∀ k, v.ownBlock = some k → ¬ S k) : At w' B Q f T cs v l :=
  ⟨h.blk.kept hc hQ, h.cell, own_kept h.row hc hv, h.ne, Nat.le_trans h.le hc.size⟩
/-- A row of pairs is another block than a heap's. -/
theorem At.far {w : World} {B B' Q f n : Nat} {T : TypeId} {cs : Array Value} {v x : Value} {l : List It} {xs : List Value} (h : At w B Q f T cs v l) (hT : T ≠ 32) (hr : w.ownsRow B' 32 2 x n xs) : ∀ k, x.ownBlock = some k → ¬ OwnQ Q v k := by
  intro k hk ho
  obtain ⟨ds, hd⟩ := own_blk hr hk
  rcases ho with rfl | e
  · exact (hd.differ h.blk (Ne.symm hT)) rfl
  · obtain ⟨es, he⟩ := own_blk h.row e
    exact (hd.differ he (by decide)) rfl
/-- What lies there while All takes out one after the other. -/
structure AllI (w : World) (l : List It) (K k : Nat) (o : Value) (wr : World) (cv : Value) (cl dn : List It) : Prop where
  at_ : At wr w.heap.size K 0 44 #[cv] cv cl
  heap : IsHeap cl
  len : dn.length = k
  perm : (dn ++ cl).Perm l
  sorted : dn.Pairwise leI
  ahead : ∀ x ∈ dn, ∀ y ∈ cl, leI x y
  out : wr.ownsRow w.heap.size 32 2 o k (flat2 (dn.map pr))
  below : Below w.heap.size w wr
  hK : w.heap.size ≤ K
section
variable {w w' : World} {H B : Nat} {v : Value} {l : List It} {sq : Int}
set_option maxRecDepth 100000 in
set_option maxHeartbeats 3200000 in
theorem all_q {n : Nat} (h : QIs w H B v l sq) (hl : l.length = n) (hp : 0 < n) (hm : n ≤ 1000) :
    Calls Try.prog 15 #[.pointer (some ⟨H, 0, none⟩)] w fun e w' => ∃ (o : Value) (dn : List It), e = .returned o ∧ dn.Perm l ∧ dn.Pairwise leI ∧ w'.ownsRow w.heap.size 32 2 o n (flat2 (dn.map pr)) ∧ Below w.heap.size w w' := by
  obtain ⟨i0, hi, hz0, hz1, hz2⟩ := info_parts info32
  have HZ := Lib.hid (And.intro hi (And.intro hz0 (And.intro hz1 hz2)))
  have HH := Lib.hid (len_q h)
  rw [hl] at HH
  obtain ⟨A, c, rfl⟩ := h.at_.row.form
  have h2 := h.at_
  rw [hl] at h2
  obtain ⟨g, rfl, hc, hc2⟩ := h2.row.some_ hl hp
  have x1 := h2.holds
  have HC := Lib.hid (clone_any g n c B l w h2.row hl hp hm)
  have HIS := Lib.hid h.heap
  have HL := Lib.hid hl
  have b1 : ¬ (n : Int) = 0 := by omega
  clear h h2 hl hi hz0 hz1 hz2
  go_enter Try.func15, Try.ntmps15
  go_wp2_with fail
  refine HH.out.mono ?_; rintro e w1 ⟨rfl, rfl⟩
  go_wp2_with fail
  refine HC.out.mono ?_; rintro e w2 ⟨g2, c2, rfl, h2, h3⟩
  have INI : Hid (AllI w l w2.heap.size 0 (.slice none 0 0) (w2.alloc (.cells #[.slice (some ⟨g2, 0, none⟩) n c2] 44)) (.slice (some ⟨g2, 0, none⟩) n c2) l []) := by
    have hb : Below w2.heap.size w2 (w2.alloc (.cells #[.slice (some ⟨g2, 0, none⟩) n c2] 44)) := (Below.refl _ _).alloc (Nat.le_refl _) _
    exact ⟨⟨Blk.new _ _ _, rfl, h2.later hb, by decide, Nat.le_trans h3.size (by simp)⟩, HIS.out, rfl, .refl _, .nil, by simp, World.ownsRow_nil _ _ _ _, h3.trans (hb.mono h3.size), h3.size⟩
  clear h2 h3
  go_wp2_with fail
  go_loopg [4, 5] (n + 1) (fun gk s4 s5 wr => ∃ (k c' : Nat) (A' : Option Addr), s4 = .slice A' k c' ∧ gk + k = n + 1 ∧ k ≤ n ∧ Hid (∃ cv cl dn, AllI w l w2.heap.size k (.slice A' k c') wr cv cl dn))
  case atStart => exact ⟨0, 0, none, rfl, by omega, by omega, _, _, _, INI.out⟩
  case round =>
    obtain ⟨k, c', A', rfl, hgk, hkn, cv, cl, dn, HI⟩ := hrel
    clear INI
    have hcl : dn.length + cl.length = n := by have := HI.perm.length_eq; rw [List.length_append, HL.out] at this; exact this
    rw [HI.len] at hcl
    obtain ⟨Ac, cc, rfl⟩ := HI.at_.row.form
    have x2 := HI.at_.holds
    by_cases hlt : k < n
    · have hcl2 : cl.length = (n - k - 1) + 1 := by omega
      have HP := Lib.hid (hpop_any HI.at_ HI.heap hcl2 (by omega))
      obtain ⟨m, hm2⟩ : ∃ m, cl.length = m := ⟨_, rfl⟩
      have b2 : (0 : Int) < (m : Int) := by omega
      have HIH := Lib.hid HI
      obtain ⟨hh1, hh2⟩ := heap_head HI.heap (by omega)
      have HH1 := Lib.hid hh1
      have HH2 := Lib.hid hh2
      rw [hm2] at x2 HP HIH
      clear HI hcl hcl2 hh1 hh2
      generalize gx cl 0 = x at *
      go_wp2_with fail
      refine HP.out.mono ?_; rintro e w3 ⟨rfl, g3, c3, l3, hv3, hl3, h4, h5, h6, h7⟩
      have tq := assert51 (.agg #[.int .i64 x.at_, .int .i64 x.id, .int .i64 x.seq]) w3
      have hb4 : Below w3.heap.size w3 (w3.alloc (.cells #[.int .i64 x.at_, .int .i64 x.id, .int .i64 x.seq] 51)) := (Below.refl _ _).alloc (Nat.le_refl _) _
      have hb5 : Below w3.heap.size w3 ((w3.alloc (.cells #[.int .i64 x.at_, .int .i64 x.id, .int .i64 x.seq] 51)).alloc (.cells #[.int .i64 x.at_, .int .i64 x.id] 32)) := hb4.alloc (by simp) _
      have hr3 := own_kept HIH.out.out h7 (HIH.out.at_.far (by decide) HIH.out.out)
      have HRW := Lib.hid (own_later hr3 hb5)
      have hAt5 := h4.later hb5
      have HAT := Lib.hid hAt5
      have hB3 := below_chg HIH.out.below h7 HIH.out.below.size (fun k hk ho => by
        rcases ho with e | e
        · have := HIH.out.hK; omega
        · have := (HIH.out.at_.row.lt k e).1; omega)
      have HB5 := Lib.hid (hB3.trans (hb5.mono hB3.size))
      have HPE : Hid ((dn ++ [x] ++ l3).Perm l) := by
        refine List.Perm.trans ?_ HIH.out.perm
        rw [List.append_assoc]
        exact List.Perm.append_left dn (List.perm_append_comm.trans h6)
      have HSO : Hid ((dn ++ [x]).Pairwise leI) := by
        unfold Hid
        rw [List.pairwise_append]
        refine ⟨HIH.out.sorted, by simp, fun a ha b hb => ?_⟩
        obtain rfl : b = x := by simpa using hb
        exact HIH.out.ahead a ha b HH1.out
      have HAH : Hid (∀ a ∈ dn ++ [x], ∀ y ∈ l3, leI a y) := by
        intro a ha y hy
        have hyc : y ∈ cl := h6.mem_iff.1 (by simp [hy])
        rw [List.mem_append] at ha
        rcases ha with ha | ha
        · exact HIH.out.ahead a ha y hyc
        · obtain rfl : a = x := by simpa using ha
          exact HH2.out y hyc
      have H5 := Lib.hid h5
      have hsz5 : Hid (w.heap.size ≤ ((w3.alloc (.cells #[.int .i64 x.at_, .int .i64 x.id, .int .i64 x.seq] 51)).alloc (.cells #[.int .i64 x.at_, .int .i64 x.id] 32)).heap.size) := HB5.out.size
      have h63 : Hid (k + 1 ≤ maxLen) := by unfold Hid maxLen; omega
      have h47 : Hid ((k + 1) * 16 ≤ 140737488355328) := by unfold Hid; omega
      have HNW : Hid (∀ j u, [Value.int .i64 x.at_, .int .i64 x.id][j]? = some u → ((w3.alloc (.cells #[.int .i64 x.at_, .int .i64 x.id, .int .i64 x.seq] 51)).alloc (.cells #[.int .i64 x.at_, .int .i64 x.id] 32)).cell? ((⟨(w3.alloc (.cells #[.int .i64 x.at_, .int .i64 x.id, .int .i64 x.seq] 51)).heap.size, 0, none⟩ : Addr).add j) = some u) := fun j u hj => cells2 j u hj
      have hs5 : (w3.alloc (.cells #[.int .i64 x.at_, .int .i64 x.id, .int .i64 x.seq] 51)).heap.size = w3.heap.size + 1 := by simp
      rw [hs5] at HNW
      have HST : Hid (∀ (v4 : Value) (w6 : World), w6.ownsRow w.heap.size 32 2 v4 (k + 1) (flat2 (dn.map pr) ++ [.int .i64 x.at_, .int .i64 x.id]) → ((w3.alloc (.cells #[.int .i64 x.at_, .int .i64 x.id, .int .i64 x.seq] 51)).alloc (.cells #[.int .i64 x.at_, .int .i64 x.id] 32)).grownBy w6 (Value.slice A' k c').ownBlock →
          AllI w l w2.heap.size (k + 1) v4 w6 (.slice (some ⟨g3, 0, none⟩) (n - k - 1) c3) l3 (dn ++ [x])) := by
        intro v4 w6 hown hgrow
        have hfar := HAT.out.far (by decide) HRW.out
        refine ⟨(HAT.out.kept (Chg.of_grown hgrow) (fun e => hfar _ e.symm (Or.inl rfl)) (fun k hk e => hfar k e.symm (Or.inr hk))), H5.out, by simp [HIH.out.len], HPE.out, HSO.out, HAH.out, ?_, HB5.out.grown hgrow hsz5.out (fun k hk => (HRW.out.lt k hk).1), HIH.out.hK⟩
        rw [List.map_append, flat2_append]
        exact hown
      clear h4 h5 h6 h7 hb4 hb5 hr3 hAt5 hB3 hv3 hl3
      go_wp2_with (first
        | (at_builtin; refine wpList_append_own _ rfl _ _ 25 rfl w.heap.size 32 i0 _ 2 16 Try.underlying25 HZ.out.1 HZ.out.2.1 HZ.out.2.2.1 HZ.out.2.2.2 rfl (by decide) (.slice A' k c') k (flat2 (dn.map pr)) rfl HRW.out ⟨w3.heap.size + 1, 0, none⟩ 1 1 [.int .i64 x.at_, .int .i64 x.id] rfl rfl HNW.out one2 h63.out h47.out hsz5.out ?_; intro v4 w6 hown hgrow _; obtain ⟨A4, c4, rfl⟩ := own_form hown (by decide) hown.1; have HREL := Lib.hid (HST.out _ w6 hown hgrow); clear hown hgrow)
        | fail)
      go_roundg (gk - 1)
      case rel => exact ⟨k + 1, c4, A4, rfl, by omega, by omega, _, _, _, HREL.out⟩
      case measure => omega
    · obtain rfl : k = n := by omega
      obtain rfl : cl = [] := List.eq_nil_of_length_eq_zero (by omega)
      have HE := Lib.hid HI
      clear HI
      go_wp2_with fail
      go_returns
      have hp9 := HE.out.perm
      rw [List.append_nil] at hp9
      exact ⟨_, dn, rfl, hp9, HE.out.sorted, HE.out.out, HE.out.below⟩
end
end Go.Proofs.Ythcfgchlaagfkaa
