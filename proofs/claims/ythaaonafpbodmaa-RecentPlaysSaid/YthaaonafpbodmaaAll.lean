/-
  The walk of All. No condition.
-/
import Derived.Test.YthaaonafpbodmaaCalls
import Derived.OwnWalk
import Derived.Laws.OwnMore
import Derived.Deep.LoopGhost
namespace Go.Proofs.Ythaaonafpbodmaa
open Go.ChangeShapes Go.WideShapes Go.ChangeAt Go.RowKit
set_option linter.unusedVariables false
set_option linter.unusedSimpArgs false

theorem info3 : (Try.prog.info? 3).map (fun i => (i.zero, i.size, i.bytes)) = some (some (.int .i64 0), 1, 8) := by kernel_rfl
def is (zs : List Nat) : List Value := zs.map (fun (z : Nat) => Value.int .i64 (z : Int))
def OwnI (w : World) (B : Nat) (v : Value) (zs : List Nat) : Prop := w.ownsRow B 3 1 v zs.length (is zs)
theorem OwnI.form {w : World} {B : Nat} {v : Value} {zs : List Nat} (h : OwnI w B v zs) : ∃ A c, v = .slice A zs.length c := by
  rcases h.2 with ⟨rfl, h0⟩ | ⟨g, cap, cur, rfl, _⟩
  · exact ⟨none, 0, by rw [h0]⟩
  · exact ⟨_, _, rfl⟩
theorem OwnI.nil (w : World) (B : Nat) : OwnI w B (.slice none 0 0) [] := World.ownsRow_nil _ _ _ _
theorem OwnI.later {w v : World} {B : Nat} {x : Value} {zs : List Nat} (h : OwnI w B x zs) (hb : Below w.heap.size w v) : OwnI v B x zs := by
  refine ⟨h.1, h.2.imp id fun ⟨g, cap, cur, h1, h2, h3, h4⟩ => ⟨g, cap, cur, h1, h2, (hb.block g (lt_of_block h3)).trans h3, h4⟩⟩
theorem stepI {w wr w1 : World} {B m : Nat} {v v' : Value} {zs ys : List Nat} (h : OwnI wr B v zs) (hb : Below B w wr) (hB : B ≤ wr.heap.size) (hm : ys.length = m)
    (h' : w1.ownsRow B 3 1 v' (zs.length + m) (is zs ++ is ys)) (hg : wr.grownBy w1 v.ownBlock) : OwnI w1 B v' (zs ++ ys) ∧ Below B w w1 := by
  refine ⟨?_, hb.grown hg hB (fun k hk => (h.lt k hk).1)⟩
  unfold OwnI is
  rw [List.length_append, List.map_append, hm]
  exact h'

theorem Arr.below {w v : World} {D n : Nat} {f : Nat → Int} (h : Arr w D n f) (hb : Below w.heap.size w v) : Arr v D n f := by
  obtain ⟨cs, h1, h2, h3⟩ := h
  exact ⟨cs, h1.below hb h1.lt, h2, h3⟩
theorem RS.below {w v : World} {L R D U n : Nat} {up dn : Nat → Int} {m : Int} (h : RS w L R D U n up dn m) (hb : Below w.heap.size w v) : RS v L R D U n up dn m :=
  ⟨h.l.below hb h.l.lt, h.r.below hb h.r.lt, h.d.below hb, h.u.below hb, h.ne⟩
theorem LS.below {w v : World} {L R D U n : Nat} {l : List Nat} (h : LS w L R D U n l) (hb : Below w.heap.size w v) : LS v L R D U n l := by
  obtain ⟨up, dn, h1, h2⟩ := h
  exact ⟨up, dn, h1.below hb, h2⟩
theorem cell1 {w : World} {n : Nat} {t : TypeId} {x : Value} (h : w.heap[n]? = some (.cells #[x] t (0, 0))) : ∀ j u, [x][j]? = some u → w.cell? ((⟨n, 0, none⟩ : Addr).add j) = some u := by
  intro j u hj
  match j, hj with
  | 0, hj => simp at hj; subst hj; simp [Addr.add, World.cell?, h]
theorem all_nil (w : World) : Calls Try.prog 13 #[.pointer none] w fun e w' => e = .returned (.slice none 0 0) ∧ w = w' := by
  go_enter Try.func13, Try.ntmps13
  go_wp2_with fail
  refine (len_nil _).mono ?_; rintro e w' ⟨rfl, rfl⟩
  go_wp2
  go_returns
  exact ⟨rfl, rfl⟩
theorem all_bare (L : Nat) (w : World) (h : Blk w L 41 #[.pointer none]) : Calls Try.prog 13 #[.pointer (some ⟨L, 0, none⟩)] w fun e w' => e = .returned (.slice none 0 0) ∧ w = w' := by
  have HH := Lib.hid h
  clear h
  go_enter Try.func13, Try.ntmps13
  go_wp2_with fail
  refine (len_bare L _ HH.out).mono ?_; rintro e w' ⟨rfl, rfl⟩
  go_wp2
  go_returns
  exact ⟨rfl, rfl⟩
theorem all_any (L R D U n : Nat) (l : List Nat) (w : World) (h : LS w L R D U n l) (hn : n ≤ 256) : Calls Try.prog 13 #[.pointer (some ⟨L, 0, none⟩)] w fun e w' => ∃ v, e = .returned v ∧ OwnI w' w.heap.size v l ∧ Below w.heap.size w w' := by
  have HL := Lib.hid h
  obtain ⟨up, dn, h, hr⟩ := h
  by_cases h0 : l = []
  · subst h0
    clear h hr
    go_enter Try.func13, Try.ntmps13
    go_wp2_with fail
    refine (len_ls L R D U n [] _ HL.out).mono ?_; rintro e w' ⟨rfl, rfl⟩
    go_wp2
    go_returns
    exact ⟨_, rfl, OwnI.nil _ _, Below.refl _ _⟩
  · obtain ⟨i0, hi, hz0, hz1, hz2⟩ := info_parts info3
    have HZ := Lib.hid (And.intro hi (And.intro hz0 (And.intro hz1 hz2)))
    clear hi hz0 hz1 hz2
    have c0 : w.cell? ⟨L, 0, none⟩ = some (.pointer (some ⟨R, 0, none⟩)) := h.l.cell 0
    have c1 : w.cell? ⟨R, 1, none⟩ = some (.slice (some ⟨U, 0, none⟩) (n + 1) (n + 1)) := h.r.cell 1
    have cu := h.u.cell (Nat.le_refl n)
    rw [hr.links.up_hd] at cu
    have hpos : 0 < l.length := List.length_pos_iff.2 h0
    have hlen := nodup_len n l hr.nodup hr.lt
    obtain ⟨b, hb⟩ : ∃ b, l.headD n = b := ⟨_, rfl⟩
    rw [hb] at cu
    have HB := Lib.hid hb
    have HH := Lib.hid h
    have HR := Lib.hid hr
    have b1 : (0 : Int) ≤ (n : Int) := by omega
    have b2 : (n : Int) < (n : Int) + 1 := by omega
    have b3 : (n : Int) < ((n + 1 : Nat) : Int) := by omega
    clear h hr hb h0
    go_enter Try.func13, Try.ntmps13
    go_wp2_with fail
    refine (len_ls L R D U n l _ HL.out).mono ?_; rintro e w' ⟨rfl, rfl⟩
    go_wp2_with fail
    go_region_held3 (fun W => W.cell? ⟨L, 0, none⟩ = some (.pointer (some ⟨R, 0, none⟩)) ∧ W.cell? ⟨R, 1, none⟩ = some (.slice (some ⟨U, 0, none⟩) (n + 1) (n + 1)) ∧ W.cell? ⟨U, n, none⟩ = some (.int .i64 b)) (first | exact ⟨c0, c1, cu⟩)
      (first
        | (go_at_call 20; refine Calls.mono (own_any R n D U _ w.drew (Blk.draw HH.out.r) hn) ?_; rintro e w' ⟨rfl, rfl⟩))
    go_wp2_with fail
    go_loopg [3, 4] l.length (fun gk s3 s4 wr => ∃ (p q : List Nat) (c' : Nat) (A' : Option Addr), s3 = .slice A' p.length c' ∧ s4 = .int .i64 (q.headD n : Nat) ∧ gk = q.length ∧ Hid (l = p ++ q ∧ Below w.heap.size w wr ∧ OwnI wr w.heap.size (.slice A' p.length c') p))
    case atStart => exact ⟨[], l, 0, none, rfl, by rw [HB.out], rfl, rfl, (Below.refl _ _).drew, OwnI.nil _ _⟩
    case round =>
      obtain ⟨p, q, c', A', rfl, rfl, rfl, HI⟩ := hrel
      have HX := Lib.hid (HH.out.below HI.out.2.1)
      have d0 : wr.cell? ⟨L, 0, none⟩ = some (.pointer (some ⟨R, 0, none⟩)) := HX.out.l.cell 0
      clear c0 c1 cu
      cases q with
      | nil =>
        simp only [List.headD_nil]
        go_wp2_with fail
        refine (own_any R n D U _ _ HX.out.r hn).mono ?_; rintro e w' ⟨rfl, rfl⟩
        go_wp2
        go_ret
        exact ⟨_, rfl, by rw [HI.out.1, List.append_nil]; exact HI.out.2.2, HI.out.2.1⟩
      | cons b t =>
        simp only [List.headD_cons]
        have hlb := HI.out.1
        have hbl : b < n := HR.out.lt b (by rw [hlb]; simp)
        have hbn : ((b : Int) != (n : Int)) = true := by simp; omega
        have hub : up b = (t.headD n : Nat) := by
          have := HR.out.links
          rw [hlb] at this
          exact (Links.append.1 this).2.up_hd
        have hpl : p.length < l.length := by rw [hlb]; simp
        have HUB := Lib.hid hub
        clear hlb hub
        go_wp2_with fail
        refine (own_any R n D U _ _ HX.out.r hn).mono ?_; rintro e w' ⟨rfl, rfl⟩
        go_wp2_with (at_builtin; refine wpList_append_own _ rfl _ _ 26 rfl w.heap.size 3 i0 _ 1 8 Try.underlying26 HZ.out.1 HZ.out.2.1 HZ.out.2.2.1 HZ.out.2.2.2 rfl (by decide) _ p.length (is p) rfl (World.ownsRow.alloc HI.out.2.2 _) ⟨wr.heap.size, 0, none⟩ 1 1 [.int .i64 b] rfl rfl ?c1 ?c2 ?c3 ?c4 ?c5 ?_)
        case c1 => exact cell1 (heap_alloc_new wr _)
        case c2 => intro u hu; simp at hu; subst hu; rfl
        case c3 => unfold maxLen; omega
        case c4 => omega
        case c5 => have := HI.out.2.1.size; simp; omega
        intro v' w2 hown hgrow _
        have Q := stepI (ys := [b]) (w := w) (HI.out.2.2.alloc _) (HI.out.2.1.alloc HI.out.2.1.size _) (by have := HI.out.2.1.size; simp; omega) rfl hown hgrow
        obtain ⟨A2, c2, hv⟩ := Q.1.form
        have HQ := Lib.hid Q
        rw [hv]
        have HV := Lib.hid hv
        have HY := Lib.hid (HH.out.below Q.2)
        have d0 : w2.cell? ⟨L, 0, none⟩ = some (.pointer (some ⟨R, 0, none⟩)) := HY.out.l.cell 0
        have d1 : w2.cell? ⟨R, 1, none⟩ = some (.slice (some ⟨U, 0, none⟩) (n + 1) (n + 1)) := HY.out.r.cell 1
        have d2 : w2.cell? ⟨U, b, none⟩ = some (.int .i64 (t.headD n : Nat)) := (HY.out.u.cell (by omega)).trans (by rw [HUB.out])
        clear Q hown hgrow hv
        go_wp2_with fail
        go_roundg t.length
        case rel => exact ⟨p ++ [b], t, c2, A2, rfl, by simp, rfl, by rw [HI.out.1]; simp, HQ.out.2, HV.out ▸ HQ.out.1⟩
        case measure => simp
end Go.Proofs.Ythaaonafpbodmaa
