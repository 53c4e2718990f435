/-
  The walks of the document's Pairs and of same. No condition.
-/
import Derived.Test.YtblnlmhkaacciaaRefPush
namespace Go.Proofs.Ytblnlmhkaacciaa
open Go.ChangeShapes Go.WideShapes Go.ChangeAt Go.RowKit
set_option linter.unusedVariables false
set_option linter.unusedSimpArgs false

set_option maxRecDepth 100000 in
set_option maxHeartbeats 1600000 in
theorem refPairs_any (A : Option Addr) (n c B u : Nat) (rs : List Ver) (w : World) (h : RefIs w B (.slice A n c) rs) (hn : rs.length = n) (hl : n ≤ 4) (hu : u < 18446744073709551616) :
    Calls Try.prog 15 #[.slice A n c, .int .u64 (u : Int)] w fun e w' => ∃ v, e = .returned v ∧ w'.ownsRow w.heap.size 48 2 v n (flat2 (pairsL (sayV rs) u)) ∧ Below w.heap.size w w' := by
  obtain ⟨i0, hi, hz0, hz1, hz2⟩ := info_parts info48
  have HZ := Lib.hid (And.intro hi (And.intro hz0 (And.intro hz1 hz2)))
  have HH := Lib.hid h
  have HN := Lib.hid hn
  clear h hn hi hz0 hz1 hz2
  go_enter Try.func15, Try.ntmps15
  go_wp2_with fail
  go_loopg [5, 6, 7, 8] (n + 1) (fun gk s5 s6 s7 s8 wr => ∃ (i c' : Nat) (A' : Option Addr), s5 = .slice A' i c' ∧ s6 = .int .i64 i ∧ gk + i = n + 1 ∧ i ≤ n ∧ Hid (wr.ownsRow w.heap.size 48 2 (.slice A' i c') i (flat2 (pairsL (sayV (rs.take i)) u)) ∧ Below w.heap.size w wr))
  case atStart => exact ⟨0, 0, none, rfl, rfl, by omega, by omega, World.ownsRow_nil _ _ _ _, Below.refl _ _⟩
  case round =>
    obtain ⟨i, c', A', rfl, rfl, hgi, hin, HI⟩ := hrel
    by_cases hlt : i < n
    · have hil : i < rs.length := by have := HN.out; omega
      obtain ⟨g, rfl, hBg, hc', hg, hcell⟩ := HH.out.some_ HN.out (by omega)
      obtain ⟨f0, f1, f2, f3⟩ := flatV_at rs i hil
      have x3 := (HI.out.2.cell (p := ⟨g, i * 4 + 3, none⟩) hg).trans (hcell _ _ f3)
      have hlie := (HH.out.2 rs[i] (List.getElem_mem hil)).later HI.out.2
      have htk : flat2 (pairsL (sayV (rs.take (i + 1))) u) = flat2 (pairsL (sayV (rs.take i)) u) ++ [.int .i64 (twoL rs[i].tab u).1, .int .i64 (twoL rs[i].tab u).2] := by
        unfold pairsL sayV
        rw [List.take_add_one, List.getElem?_eq_getElem hil, List.map_append, List.map_append, flat2_append]
        rfl
      obtain ⟨p, hp⟩ : ∃ p, rs[i] = p := ⟨_, rfl⟩
      rw [hp] at x3 hlie htk
      obtain ⟨nu, fr, un, pA, pc, pt⟩ := p
      obtain ⟨kk, hkk⟩ : ∃ kk, pt.length = kk := ⟨_, rfl⟩
      unfold Ver.sl at x3
      simp only [hkk] at x3 htk
      have HTW := Lib.hid (refTwo_any pA kk pc u pt wr hlie.1.row hkk (by have := hlie.2; rw [← hkk]; (have h8 : pt.length * 8 ≤ 140737488355328 := this); omega) hu)
      obtain ⟨a, b, hab⟩ : ∃ a b, twoL pt u = (a, b) := ⟨_, _, rfl⟩
      rw [hab] at HTW htk
      have HTK := Lib.hid htk
      have h63 : Hid (i + 1 ≤ maxLen) := by unfold Hid maxLen; omega
      have h47 : Hid ((i + 1) * 16 ≤ 140737488355328) := by unfold Hid; omega
      have hal : Below wr.heap.size wr (wr.alloc (.cells #[.int .i64 a, .int .i64 b] 48)) := (Below.refl _ _).alloc (Nat.le_refl _) _
      have RW : Hid ((wr.alloc (.cells #[.int .i64 a, .int .i64 b] 48)).ownsRow w.heap.size 48 2 (.slice A' i c') i (flat2 (pairsL (sayV (rs.take i)) u))) := own_later HI.out.1 hal
      have HW2 := Lib.hid (HI.out.2.trans (hal.mono HI.out.2.size))
      have HS2 : Hid (w.heap.size ≤ (wr.alloc (.cells #[.int .i64 a, .int .i64 b] 48)).heap.size) := HW2.out.size
      clear hcell f0 f1 f2 f3 hlie htk hp hkk hab hal hBg hc'
      go_wp2_with (first
        | (go_at_call 24; refine HTW.out.mono ?_; rintro e w2 ⟨rfl, rfl⟩)
        | (at_builtin; refine wpList_append_own _ rfl _ _ 44 rfl w.heap.size 48 i0 _ 2 16 Try.underlying44 HZ.out.1 HZ.out.2.1 HZ.out.2.2.1 HZ.out.2.2.2 rfl (by decide) (.slice A' i c') i (flat2 (pairsL (sayV (rs.take i)) u)) rfl RW.out ⟨w2.heap.size, 0, none⟩ 1 1 [.int .i64 a, .int .i64 b] rfl rfl cells2 one2 h63.out h47.out HS2.out ?_; intro v4 w4 hown hgrow _; obtain ⟨A4, c4, rfl⟩ := own_form hown (by decide) hown.1; have HREL : Hid (w4.ownsRow w.heap.size 48 2 (.slice A4 (i + 1) c4) (i + 1) (flat2 (pairsL (sayV (rs.take (i + 1))) u)) ∧ Below w.heap.size w w4) := ⟨by (rw [HTK.out]; exact hown), HW2.out.grown hgrow HS2.out (fun k hk => (RW.out.lt k hk).1)⟩; clear hown hgrow)
        | fail)
      go_roundg (gk - 1)
      case rel => exact ⟨i + 1, c4, A4, rfl, by go_num, by omega, by omega, HREL.out⟩
      case measure => omega
    · obtain rfl : i = n := by omega
      have hh := HI.out
      rw [List.take_of_length_le (by rw [HN.out]; omega)] at hh
      have HE := Lib.hid hh
      clear hh
      go_wp2_with fail
      go_ret
      exact ⟨_, rfl, HE.out.1, HE.out.2⟩
theorem say_at {vs rs : List Ver} (h : sayV vs = sayV rs) (i : Nat) (hi : i < vs.length) (hr : i < rs.length) : vs[i].num = rs[i].num ∧ vs[i].frm = rs[i].frm ∧ vs[i].unt = rs[i].unt ∧ vs[i].tab = rs[i].tab := by
  have h1 : (sayV vs)[i]'(by simpa [sayV] using hi) = (sayV rs)[i]'(by simpa [sayV] using hr) := by simp only [h]
  simp [sayV, Ver.says] at h1
  exact h1
set_option maxRecDepth 100000 in
set_option maxHeartbeats 3200000 in
theorem same_any (A A2 : Option Addr) (n c c2 B B2 : Nat) (vs rs : List Ver) (w : World) (h1 : w.ownsRow B 32 4 (.slice A n c) n (flatV vs)) (h2 : ∀ p ∈ vs, p.lies w B) (hv : vs.length = n) (hr : RefIs w B2 (.slice A2 n c2) rs) (hn : rs.length = n) (he : sayV vs = sayV rs) (hl : n ≤ 1000) :
    Calls Try.prog 16 #[.slice A n c, .slice A2 n c2] w fun e w' => e = .returned (.bool true) ∧ Below w.heap.size w w' := by
  have H1 := Lib.hid h1
  have H2 := Lib.hid h2
  have HV := Lib.hid hv
  have HR := Lib.hid hr
  have HN := Lib.hid hn
  have HE := Lib.hid he
  clear h1 h2 hv hr hn he
  go_enter Try.func16, Try.ntmps16
  go_wp2_with fail
  go_loopg [5] (n + 1) (fun gk s5 wr => ∃ i : Nat, s5 = .int .i64 i ∧ gk + i = n + 1 ∧ i ≤ n ∧ Hid (∃ k, wr = w.drewN k))
  case atStart => exact ⟨0, rfl, by omega, by omega, 0, rfl⟩
  case round =>
    obtain ⟨i, rfl, hgi, hin, HI⟩ := hrel
    by_cases hlt : i < n
    · have hiv : i < vs.length := by have := HV.out; omega
      have hir : i < rs.length := by have := HN.out; omega
      obtain ⟨k, hk⟩ := HI.out
      obtain ⟨g, rfl, hg1, hg2, cs, hb, hcs⟩ := own_cell H1.out (by omega)
      obtain ⟨g2, rfl, _, _, hg3, hcell⟩ := HR.out.some_ HN.out (by omega)
      obtain ⟨f0, f1, f2, f3⟩ := flatV_at vs i hiv
      obtain ⟨r0, r1, r2, r3⟩ := flatV_at rs i hir
      have y0 : wr.cell? ⟨g, i * 4, none⟩ = some (.int .i64 vs[i].num) := by rw [hk]; exact ((hb.cell _).trans (hcs _ (by omega))).trans f0
      have y1 : wr.cell? ⟨g, i * 4 + 1, none⟩ = some (.int .i64 vs[i].frm) := by rw [hk]; exact ((hb.cell _).trans (hcs _ (by omega))).trans f1
      have y2 : wr.cell? ⟨g, i * 4 + 2, none⟩ = some (.int .i64 vs[i].unt) := by rw [hk]; exact ((hb.cell _).trans (hcs _ (by omega))).trans f2
      have y3 : wr.cell? ⟨g, i * 4 + 3, none⟩ = some vs[i].sl := by rw [hk]; exact ((hb.cell _).trans (hcs _ (by omega))).trans f3
      have z0 : wr.cell? ⟨g2, i * 4, none⟩ = some (.int .i64 rs[i].num) := by rw [hk]; exact hcell _ _ r0
      have z1 : wr.cell? ⟨g2, i * 4 + 1, none⟩ = some (.int .i64 rs[i].frm) := by rw [hk]; exact hcell _ _ r1
      have z2 : wr.cell? ⟨g2, i * 4 + 2, none⟩ = some (.int .i64 rs[i].unt) := by rw [hk]; exact hcell _ _ r2
      have z3 : wr.cell? ⟨g2, i * 4 + 3, none⟩ = some rs[i].sl := by rw [hk]; exact hcell _ _ r3
      obtain ⟨s0, s1, s2, s3⟩ := say_at HE.out i hiv hir
      have l1 := (H2.out vs[i] (List.getElem_mem hiv))
      have l2 := (HR.out.2 rs[i] (List.getElem_mem hir))
      rw [s0] at y0
      rw [s1] at y1
      rw [s2] at y2
      unfold Ver.sl at y3 z3
      rw [s3] at y3
      have q1 : NRow w vs[i].A rs[i].tab := by
        have := l1.1
        unfold Ver.sl at this
        have h9 := Tab.row this
        rwa [s3] at h9
      have q2 : NRow w rs[i].A rs[i].tab := Tab.row l2.1
      have q3 := l2.2
      generalize vs[i].A = a1 at *
      generalize vs[i].c = d1 at *
      generalize rs[i].A = a2 at *
      generalize rs[i].c = d2 at *
      generalize rs[i].num = nu at *
      generalize rs[i].frm = fr at *
      generalize rs[i].unt = un at *
      generalize rs[i].tab = tb at *
      obtain ⟨m, hm⟩ : ∃ m, tb.length = m := ⟨_, rfl⟩
      rw [hm] at y3 z3 q3
      have HQ : Hid (∀ j, Calls Try.prog 9 #[.slice a1 m d1, .slice a2 m d2] (wr.drewN j) fun e w' => e = .returned (.bool true) ∧ ∃ k, w' = (wr.drewN j).drewN k) := fun j => by
        have h9 := ints_any a1 a2 m d1 m d2 tb tb (wr.drewN j) (by rw [hk]; exact q1) (by rw [hk]; exact q2) hm hm (by omega)
        rw [decide_eq_true (rfl : tb = tb)] at h9
        exact h9
      have HK : Hid (∃ k, wr = w.drewN k) := ⟨k, hk⟩
      have b1 : (0 : Int) ≤ (i : Int) := Int.natCast_nonneg i
      have b2 : (i : Int) < (n : Int) := Int.ofNat_lt.2 hlt
      have t0 : (nu != nu) = false := by simp
      have t1 : (fr != fr) = false := by simp
      have t2 : (un != un) = false := by simp
      clear hk hb hcs hcell f0 f1 f2 f3 r0 r1 r2 r3 s0 s1 s2 s3 l1 l2 q1 q2 q3 hm hg1 hg2 hg3 HI
      go_upto_region 6 with fail
      go_quiet ((go_at_call 9; exact Calls.quiet_of (HQ.out _)))
      go_wp2_with fail
      go_roundg (gk - 1)
      case rel =>
        refine ⟨i + 1, by go_num, by omega, by omega, ?_⟩
        obtain ⟨k, hk⟩ := HK.out
        rw [hk]
        exact ⟨_, World.drewN_drewN _ _ _⟩
      case measure => omega
    · obtain rfl : i = n := by omega
      go_wp2_with fail
      go_ret
      refine ⟨rfl, ?_⟩
      obtain ⟨k, hk⟩ := HI.out
      rw [hk]
      exact below_draws (Below.refl _ _) k
end Go.Proofs.Ytblnlmhkaacciaa
