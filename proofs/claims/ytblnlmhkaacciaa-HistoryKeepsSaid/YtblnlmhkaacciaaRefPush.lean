/-
  The walk of the document's Push. No condition beyond a table of a length that lets it be copied.
-/
import Derived.Test.YtblnlmhkaacciaaRefMay
import Derived.Deep.CutBlock
namespace Go.Proofs.Ytblnlmhkaacciaa
open Go.ChangeShapes Go.WideShapes Go.ChangeAt Go.RowKit
set_option linter.unusedVariables false
set_option linter.unusedSimpArgs false

theorem info60 : (Try.prog.info? 60).map (fun i => (i.zero, i.size, i.bytes)) = some (some (.agg #[.int .i64 0, .int .i64 0, .int .i64 0, .slice none 0 0]), 4, 48) := by kernel_rfl
theorem closeL_drop {rs : List Ver} (now : Int) (h : 4 ≤ rs.length) : closeL now (rs.drop 1) = (closeL now rs).drop 1 := by
  rcases List.eq_nil_or_concat rs with rfl | ⟨t, p, rfl⟩
  · simp at h
  · rw [List.concat_eq_append] at h ⊢
    have h1 : 1 ≤ t.length := by simp at h; omega
    rw [closeL_snoc, List.drop_append_of_le_length h1, List.drop_append_of_le_length h1, closeL_snoc]
/-- What is told again behind i rounds. -/
def againL (tgt : List Ver) (i : Nat) : List Ver := (tgt.take i).drop (if tgt.length < 4 then 0 else 1)
theorem againL_end (now : Int) (rs : List Ver) : againL (closeL now rs) (closeL now rs).length = closeL now (dropOld rs) := by
  unfold againL dropOld
  rw [List.take_length, closeL_len]
  by_cases h : 4 ≤ rs.length
  · rw [if_neg (by omega), if_pos h, closeL_drop now h]
  · rw [if_pos (by omega), if_neg h]; rfl
theorem againL_put {tgt : List Ver} {i : Nat} {p : Ver} (hi : i < tgt.length) (hp : tgt[i] = p) (hk : tgt.length < 4 ∨ 0 < i) : againL tgt (i + 1) = againL tgt i ++ [p] := by
  unfold againL
  rw [List.take_add_one, List.getElem?_eq_getElem hi, hp]
  rcases hk with h | h
  · rw [if_pos h]; rfl
  · split
    · rfl
    · rw [List.drop_append_of_le_length (by simp; omega)]; rfl
theorem againL_no {tgt : List Ver} (h : ¬ tgt.length < 4) : againL tgt 1 = againL tgt 0 := by
  unfold againL
  rw [if_neg h]
  simp
theorem againL_zero (tgt : List Ver) : againL tgt 0 = [] := by unfold againL; simp
theorem againL_len {tgt : List Ver} (i : Nat) (h : tgt.length ≤ 4) : (againL tgt i).length ≤ 4 := by unfold againL; simp; omega
theorem closeL_at {rs : List Ver} (now : Int) (i : Nat) (h : i < (closeL now rs).length) (h2 : i < rs.length) : (closeL now rs)[i] = if i + 1 = rs.length then rs[i].shut now else rs[i] := by
  rcases List.eq_nil_or_concat rs with rfl | ⟨t, p, rfl⟩
  · simp at h2
  · simp only [List.concat_eq_append] at h h2 ⊢
    have e := closeL_snoc now t p
    have h3 : (closeL now (t ++ [p]))[i] = (t ++ [p.shut now])[i]'(by simpa using h2) := by simp only [e]
    rw [h3]
    simp at h2
    by_cases hi : i = t.length
    · subst hi; simp
    · rw [if_neg (by simp; omega), List.getElem_append_left (by omega), List.getElem_append_left (by omega)]
theorem refPush_no (A : Option Addr) (n c B : Nat) (rs : List Ver) (last now : Int) (t : Value) (w : World) (h : RefIs w B (.slice A n c) rs) (hn : rs.length = n) (hl : n ≤ 4) (hm : ¬ mayL rs now = 0) :
    Calls Try.prog 12 #[.slice A n c, .int .i64 last, .int .i64 now, t] w fun e w' => e = .returned (.tuple #[.slice A n c, .int .i64 last, .int .i64 (mayL rs now)]) ∧ w = w' := by
  have HH := Lib.hid (refMay_any A n c B rs now w h hn hl)
  have t1 : (mayL rs now != 0) = true := by simpa using hm
  clear h hm
  generalize mayL rs now = x at *
  go_enter Try.func12, Try.ntmps12
  go_wp2_with fail
  refine HH.out.mono ?_; rintro e w' ⟨rfl, rfl⟩
  go_wp2_with fail
  go_returns
  exact ⟨rfl, rfl⟩
set_option maxRecDepth 100000 in
set_option maxHeartbeats 3200000 in
theorem refPush_any (A : Option Addr) (n c B : Nat) (rs : List Ver) (last now : Int) (TA : Option Addr) (k tc : Nat) (tab : List Int) (w : World) (h : RefIs w B (.slice A n c) rs) (hB : B ≤ w.heap.size) (hn : rs.length = n) (hl : n ≤ 4) (hm : mayL rs now = 0) (hr : NRow w TA tab) (htc : TA = none → tc = 0) (hk : tab.length = k) (hx : k * 8 ≤ 140737488355328) (hla : 0 ≤ last ∧ last ≤ 1000000) :
    Calls Try.prog 12 #[.slice A n c, .int .i64 last, .int .i64 now, .slice TA k tc] w fun e w' => ∃ A' n' c' rs', e = .returned (.tuple #[.slice A' n' c', .int .i64 (last + 1), .int .i64 0]) ∧ RefIs w' B (.slice A' n' c') rs' ∧ rs'.length = n' ∧ sayV rs' = pushS (sayV rs) last now tab ∧ Below w.heap.size w w' := by
  obtain ⟨i0, hi, hz0, hz1, hz2⟩ := info_parts info60
  have HZ := Lib.hid (And.intro hi (And.intro hz0 (And.intro hz1 hz2)))
  have HM := refMay_any A n c B rs now w h hn hl
  rw [hm] at HM
  have HMH := Lib.hid HM
  have HH := Lib.hid h
  have HR := Lib.hid hr
  have HTL := Lib.hid hk
  have HN := Lib.hid hn
  obtain ⟨tgt, htg⟩ : ∃ tgt, closeL now rs = tgt := ⟨_, rfl⟩
  have HTG := Lib.hid htg
  have htl : tgt.length = n := by rw [← htg, closeL_len, hn]
  have HTN := Lib.hid htl
  have HBB := Lib.hid hB
  clear HM h hm hr hk hn hi hz0 hz1 hz2 htg htl hB
  go_enter Try.func12, Try.ntmps12
  go_wp2_with fail
  refine HMH.out.mono ?_; rintro e w1 ⟨rfl, rfl⟩
  go_wp2_with fail
  go_loopg [12, 13, 14] (n + 1) (fun gk s12 s13 s14 wr => ∃ (i j c' : Nat) (A' : Option Addr), s12 = .slice A' j c' ∧ s13 = .int .i64 i ∧ gk + i = n + 1 ∧ i ≤ n ∧ j ≤ 4 ∧ Hid ((againL tgt i).length = j ∧ wr.ownsRow w.heap.size 60 4 (.slice A' j c') j (flatV (againL tgt i)) ∧ Below w.heap.size w wr))
  case atStart => exact ⟨0, 0, 0, none, rfl, rfl, by omega, by omega, by omega, by rw [againL_zero]; rfl, by rw [againL_zero]; exact World.ownsRow_nil _ _ _ _, Below.refl _ _⟩
  case round =>
    obtain ⟨i, j, c', A', rfl, rfl, hgi, hin, hj4, HI⟩ := hrel
    by_cases hlt : i < n
    · have hil : i < rs.length := by have := HN.out; omega
      have hit : i < tgt.length := by have := HTN.out; omega
      obtain ⟨g, rfl, hBg, hc', hg, hcell⟩ := HH.out.some_ HN.out (by omega)
      obtain ⟨f0, f1, f2, f3⟩ := flatV_at rs i hil
      have x0 := (HI.out.2.2.cell (p := ⟨g, i * 4, none⟩) hg).trans (hcell _ _ f0)
      have x1 := (HI.out.2.2.cell (p := ⟨g, i * 4 + 1, none⟩) hg).trans (hcell _ _ f1)
      have x2 := (HI.out.2.2.cell (p := ⟨g, i * 4 + 2, none⟩) hg).trans (hcell _ _ f2)
      have x3 := (HI.out.2.2.cell (p := ⟨g, i * 4 + 3, none⟩) hg).trans (hcell _ _ f3)
      have hta : tgt[i] = if i + 1 = n then rs[i].shut now else rs[i] := by
        have h1 := HTG.out
        subst h1
        rw [closeL_at now i hit hil, HN.out]
      obtain ⟨p, hp⟩ : ∃ p, rs[i] = p := ⟨_, rfl⟩
      rw [hp] at x0 x1 x2 x3 hta
      obtain ⟨nu, fr, un, pA, pc, pt⟩ := p
      obtain ⟨kk, hkk⟩ : ∃ kk, pt.length = kk := ⟨_, rfl⟩
      unfold Ver.sl at x3
      simp only [hkk] at x0 x1 x2 x3
      obtain ⟨u2, hu2⟩ : ∃ u2, (if i + 1 = n then now else un) = u2 := ⟨_, rfl⟩
      have HTA : Hid (tgt[i] = ⟨nu, fr, u2, pA, pc, pt⟩) := by
        unfold Hid
        rw [hta, ← hu2]
        split <;> rfl
      have HKK := Lib.hid hkk
      have HU2 := Lib.hid hu2
      clear hcell f0 f1 f2 f3 hta hp hkk hu2 hBg hc'
      obtain ⟨wb, hwb⟩ : ∃ wb, wr.alloc (.cells #[.int .i64 nu, .int .i64 fr, .int .i64 u2, .slice pA kk pc] 60) = wb := ⟨_, rfl⟩
      have KB : Hid (Blk wb wr.heap.size 60 #[.int .i64 nu, .int .i64 fr, .int .i64 u2, .slice pA kk pc]) := by unfold Hid; rw [← hwb]; exact Blk.new wr 60 _
      have BB : Hid (Below wr.heap.size wr wb) := by unfold Hid; rw [← hwb]; exact (Below.refl _ _).alloc (Nat.le_refl _) _
      have HWB := Lib.hid hwb
      clear hwb
      go_upto_if 37 with fail
      go_cut [] (fun wx => wx = wb)
      case first =>
        by_cases hc : i + 1 = n
        · have t1 : ((i : Int) == (n : Int) - 1) = true := by simp; omega
          have hu := HU2.out
          rw [if_pos hc] at hu
          have HU := Lib.hid hu
          clear hc hu
          go_wp2_with fail
          go_meet
          rw [HU.out]; exact HWB.out
        · have t1 : ((i : Int) == (n : Int) - 1) = false := by simp; omega
          have hu := HU2.out
          rw [if_neg hc] at hu
          have HU := Lib.hid hu
          clear hc hu
          go_wp2_with fail
          go_meet
          rw [HU.out]; exact HWB.out
      case rest =>
      obtain rfl := hcut
      clear x0 x1 x2 x3
      have hwb2 : Below w.heap.size w wc := HI.out.2.2.trans (BB.out.mono HI.out.2.2.size)
      have y0 : wc.cell? ⟨wr.heap.size, 0, none⟩ = some (.int .i64 nu) := KB.out.cell 0
      have y1 : wc.cell? ⟨wr.heap.size, 1, none⟩ = some (.int .i64 fr) := KB.out.cell 1
      have y2 : wc.cell? ⟨wr.heap.size, 2, none⟩ = some (.int .i64 u2) := KB.out.cell 2
      have y3 : wc.cell? ⟨wr.heap.size, 3, none⟩ = some (.slice pA kk pc) := KB.out.cell 3
      have hal : Below wc.heap.size wc (wc.alloc (.cells #[.int .i64 nu, .int .i64 fr, .int .i64 u2, .slice pA kk pc] 60)) := (Below.refl _ _).alloc (Nat.le_refl _) _
      have RW : Hid ((wc.alloc (.cells #[.int .i64 nu, .int .i64 fr, .int .i64 u2, .slice pA kk pc] 60)).ownsRow w.heap.size 60 4 (.slice A' j c') j (flatV (againL tgt i))) := own_later (own_later HI.out.2.1 BB.out) hal
      have HW2 := Lib.hid (hwb2.trans (hal.mono hwb2.size))
      have HS2 : Hid (w.heap.size ≤ (wc.alloc (.cells #[.int .i64 nu, .int .i64 fr, .int .i64 u2, .slice pA kk pc] 60)).heap.size) := HW2.out.size
      have HWC := Lib.hid hwb2
      have HIT := Lib.hid hit
      by_cases hkeep : n < 4 ∨ 0 < i
      · have hput := againL_put hit HTA.out (by rw [HTN.out]; exact hkeep)
        have hlen := againL_len (tgt := tgt) (i + 1) (by rw [HTN.out]; exact hl)
        have hj1 : j + 1 ≤ 4 := by rw [hput] at hlen; simp [HI.out.1] at hlen; omega
        have HPUT := Lib.hid hput
        have HFV : Hid (flatV [(⟨nu, fr, u2, pA, pc, pt⟩ : Ver)] = [.int .i64 nu, .int .i64 fr, .int .i64 u2, .slice pA kk pc]) := by
          unfold Hid
          rw [flatV_single]
          unfold Ver.val Ver.sl
          rw [HKK.out]
        have h63 : Hid (j + 1 ≤ maxLen) := by unfold Hid maxLen; omega
        have h47 : Hid ((j + 1) * 48 ≤ 140737488355328) := by unfold Hid; omega
        clear hput hlen hwb2 hal
        by_cases hn4 : n < 4
        · have t1 : decide ((n : Int) < 4) = true := by simp; omega
          clear hkeep
          go_wp2_with (at_builtin; refine wpList_append_own _ rfl _ _ 38 rfl w.heap.size 60 i0 _ 4 48 Try.underlying38 HZ.out.1 HZ.out.2.1 HZ.out.2.2.1 HZ.out.2.2.2 rfl (by decide) (.slice A' j c') j (flatV (againL tgt i)) rfl RW.out ⟨wc.heap.size, 0, none⟩ 1 1 [.int .i64 nu, .int .i64 fr, .int .i64 u2, .slice pA kk pc] rfl rfl cells4 one4 h63.out h47.out HS2.out ?_; intro v4 w4 hown hgrow _; obtain ⟨A4, c4, rfl⟩ := own_form hown (by decide) hown.1; have HREL : Hid ((againL tgt (i + 1)).length = j + 1 ∧ w4.ownsRow w.heap.size 60 4 (.slice A4 (j + 1) c4) (j + 1) (flatV (againL tgt (i + 1))) ∧ Below w.heap.size w w4) := ⟨by (rw [HPUT.out, List.length_append, HI.out.1]; rfl), by (rw [HPUT.out, flatV_append, HFV.out]; exact hown), HW2.out.grown hgrow HS2.out (fun k hk => (RW.out.lt k hk).1)⟩; clear hown hgrow)
          go_roundg (gk - 1)
          case rel => exact ⟨i + 1, j + 1, c4, A4, rfl, by go_num, by omega, by omega, by omega, HREL.out⟩
          case measure => omega
        · have t1 : decide ((n : Int) < 4) = false := by simp; omega
          have t2 : 0 < i := by omega
          clear hkeep
          go_wp2_with (at_builtin; refine wpList_append_own _ rfl _ _ 38 rfl w.heap.size 60 i0 _ 4 48 Try.underlying38 HZ.out.1 HZ.out.2.1 HZ.out.2.2.1 HZ.out.2.2.2 rfl (by decide) (.slice A' j c') j (flatV (againL tgt i)) rfl RW.out ⟨wc.heap.size, 0, none⟩ 1 1 [.int .i64 nu, .int .i64 fr, .int .i64 u2, .slice pA kk pc] rfl rfl cells4 one4 h63.out h47.out HS2.out ?_; intro v4 w4 hown hgrow _; obtain ⟨A4, c4, rfl⟩ := own_form hown (by decide) hown.1; have HREL : Hid ((againL tgt (i + 1)).length = j + 1 ∧ w4.ownsRow w.heap.size 60 4 (.slice A4 (j + 1) c4) (j + 1) (flatV (againL tgt (i + 1))) ∧ Below w.heap.size w w4) := ⟨by (rw [HPUT.out, List.length_append, HI.out.1]; rfl), by (rw [HPUT.out, flatV_append, HFV.out]; exact hown), HW2.out.grown hgrow HS2.out (fun k hk => (RW.out.lt k hk).1)⟩; clear hown hgrow)
          go_roundg (gk - 1)
          case rel => exact ⟨i + 1, j + 1, c4, A4, rfl, by go_num, by omega, by omega, by omega, HREL.out⟩
          case measure => omega
      · obtain rfl : i = 0 := by omega
        have t1 : decide ((n : Int) < 4) = false := by simp; omega
        have hno := againL_no (tgt := tgt) (by rw [HTN.out]; omega)
        have HREL : Hid ((againL tgt 1).length = j ∧ wc.ownsRow w.heap.size 60 4 (.slice A' j c') j (flatV (againL tgt 1)) ∧ Below w.heap.size w wc) := by
          unfold Hid
          rw [hno]
          exact ⟨HI.out.1, own_later HI.out.2.1 BB.out, hwb2⟩
        clear hno hkeep hwb2 hal
        go_wp2_with fail
        go_roundg (gk - 1)
        case rel => exact ⟨1, j, c', A', rfl, by go_num, by omega, by omega, by omega, HREL.out⟩
        case measure => omega
    · obtain rfl : i = n := by omega
      have hend : againL tgt i = closeL now (dropOld rs) := by
        have h1 := HTG.out
        have h2 := HTN.out
        subst h1
        rw [← h2]
        exact againL_end now rs
      have hi2 := HI.out
      rw [hend] at hi2
      obtain ⟨us, hus⟩ : ∃ us, closeL now (dropOld rs) = us := ⟨_, rfl⟩
      rw [hus] at hi2
      have HUS := Lib.hid hus
      have HU := Lib.hid hi2
      have hj3 : j ≤ 3 := by
        have h1 := dropOld_len (vs := rs) (by rw [HN.out]; exact hl)
        have h2 := closeL_len now (dropOld rs)
        rw [hus] at h2
        have h3 := hi2.1
        omega
      have HUL : Hid (∀ p ∈ us, p.lies w B) := fun p hp => by
        rw [← hus] at hp
        have h0 : p.sl ∈ (closeL now (dropOld rs)).map Ver.sl := List.mem_map.2 ⟨p, hp, rfl⟩
        have hcl : ∀ (q : List Ver), (closeL now q).map (fun x => (x.sl, x.tab)) = q.map (fun x => (x.sl, x.tab)) := by
          intro q
          rcases List.eq_nil_or_concat q with rfl | ⟨t, x, rfl⟩
          · rfl
          · rw [List.concat_eq_append, closeL_snoc]; simp [Ver.shut, Ver.sl]
        have h1 : (p.sl, p.tab) ∈ (dropOld rs).map (fun x => (x.sl, x.tab)) := by rw [← hcl]; exact List.mem_map.2 ⟨p, hp, rfl⟩
        obtain ⟨q, hq, e⟩ := List.mem_map.1 h1
        have hq2 : q ∈ rs := by
          unfold dropOld at hq
          split at hq
          · exact List.mem_of_mem_drop hq
          · exact hq
        have h2 := HH.out.2 q hq2
        injection e with e1 e2
        unfold Ver.lies at h2 ⊢
        rw [← e1, ← e2]
        exact h2
      obtain ⟨i3, hi3, hz3⟩ := info_parts info3
      have HZ3 := Lib.hid (And.intro hi3 hz3)
      have O0 : Hid ((wr.alloc (.cells #[] 3)).ownsRow wr.heap.size 3 1 (.slice (some ⟨wr.heap.size, 0, none⟩) 0 0) 0 []) := ⟨rfl, Or.inr ⟨wr.heap.size, 0, #[], rfl, Nat.le_refl _, heap_alloc_new wr _, Nat.le_refl _, by unfold maxLen; omega, rfl, rfl⟩⟩
      have B0 : Hid (Below wr.heap.size wr (wr.alloc (.cells #[] 3))) := (Below.refl _ _).alloc (Nat.le_refl _) _
      have hsz : Hid (wr.heap.size ≤ (wr.alloc (.cells #[] 3)).heap.size) := by unfold Hid; simp
      have HST : Hid (∀ (W4 : World) (TA' : Option Addr) (c9 : Nat), Tab W4 wr.heap.size (.slice TA' k c9) tab → Below wr.heap.size wr W4 →
          (W4.alloc (.cells #[.int .i64 (last + 1), .int .i64 now, .int .i64 (-1), .slice TA' k c9] 60)).ownsRow w.heap.size 60 4 (.slice A' j c') j (flatV us) ∧
          w.heap.size ≤ (W4.alloc (.cells #[.int .i64 (last + 1), .int .i64 now, .int .i64 (-1), .slice TA' k c9] 60)).heap.size ∧
          ∀ (w5 : World) (v5 : Value), w5.ownsRow w.heap.size 60 4 v5 (j + 1) (flatV us ++ [.int .i64 (last + 1), .int .i64 now, .int .i64 (-1), .slice TA' k c9]) → (W4.alloc (.cells #[.int .i64 (last + 1), .int .i64 now, .int .i64 (-1), .slice TA' k c9] 60)).grownBy w5 (Value.slice A' j c').ownBlock →
            ∃ A9 c9', v5 = .slice A9 (j + 1) c9' ∧ ∃ rs', RefIs w5 B v5 rs' ∧ rs'.length = j + 1 ∧ sayV rs' = pushS (sayV rs) last now tab ∧ Below w.heap.size w w5) := by
        intro W4 TA' c9 ht hb4
        have hww := HU.out.2.2
        have hal : Below W4.heap.size W4 (W4.alloc (.cells #[.int .i64 (last + 1), .int .i64 now, .int .i64 (-1), .slice TA' k c9] 60)) := (Below.refl _ _).alloc (Nat.le_refl _) _
        have hb5 : Below wr.heap.size wr (W4.alloc (.cells #[.int .i64 (last + 1), .int .i64 now, .int .i64 (-1), .slice TA' k c9] 60)) := hb4.trans (hal.mono hb4.size)
        have hbw := hww.trans (hb5.mono hww.size)
        have hrow := own_later HU.out.2.1 hb5
        refine ⟨hrow, hbw.size, fun w5 v5 hown hgrow => ?_⟩
        obtain ⟨A9, c9', rfl⟩ := own_form hown (by decide) hown.1
        refine ⟨A9, c9', rfl, us ++ [⟨last + 1, now, -1, TA', c9, tab⟩], ⟨?_, fun q hq => ?_⟩, by simp [HU.out.1], ?_, hbw.grown hgrow hbw.size (fun z hz => (hrow.lt z hz).1)⟩
        · rw [flatV_append, flatV_single, List.length_append, HU.out.1]
          unfold Ver.val Ver.sl
          rw [HTL.out]
          exact own_base hown HBB.out
        · have hkeep : ∀ q : Ver, q.lies (W4.alloc (.cells #[.int .i64 (last + 1), .int .i64 now, .int .i64 (-1), .slice TA' k c9] 60)) B → q.lies w5 B := fun q hq => ⟨⟨hq.1.1, hq.1.2.imp id fun ⟨g, cap, cur, e1, e2, e3, e4⟩ => ⟨g, cap, cur, e1, e2, (hgrow.block g (lt_of_block e3) (fun e => by
            obtain ⟨cs, hc⟩ := own_blk hrow e.symm
            exact (hc.differ (show Blk _ g 3 cur from e3) (by decide)) rfl)).trans e3, e4⟩⟩, hq.2⟩
          rcases List.mem_append.1 hq with hq | hq
          · exact hkeep q ((HUL.out q hq).later hbw)
          · rw [List.mem_singleton.1 hq]
            refine hkeep _ ⟨?_, by have := HTL.out; (show tab.length * 8 ≤ _); omega⟩
            unfold Ver.sl
            rw [HTL.out]
            exact own_later (own_base ht (Nat.le_trans HBB.out hww.size)) hal
        · rw [← pushS_of rs last now ⟨last + 1, now, -1, TA', c9, tab⟩ rfl rfl rfl, HUS.out]
      have h63 : Hid (j + 1 ≤ maxLen) := by unfold Hid maxLen; omega
      have h47 : Hid ((j + 1) * 48 ≤ 140737488355328) := by unfold Hid; omega
      clear hend hi2 hus hi3 hz3
      cases TA with
      | none =>
        have hk0 : tab = [] := by
          rcases Nat.eq_zero_or_pos tab.length with h | h
          · exact List.eq_nil_of_length_eq_zero h
          · obtain ⟨g, o, e, _⟩ := HR.out h
            cases e
        obtain rfl : k = 0 := by have := HTL.out; rw [hk0] at this; exact this.symm
        have HK0 := Lib.hid hk0
        clear hk0
        obtain rfl : tc = 0 := htc rfl
        obtain ⟨f1, f2, f3⟩ := HST.out (wr.alloc (.cells #[] 3)) (some ⟨wr.heap.size, 0, none⟩) 0 (by rw [HK0.out]; exact O0.out) B0.out
        have R5 := Lib.hid f1
        have S5 := Lib.hid f2
        have F5 := Lib.hid f3
        have HC4 : Hid (∀ j u, [Value.int .i64 (last + 1), .int .i64 now, .int .i64 (-1), .slice (some ⟨wr.heap.size, 0, none⟩) 0 0][j]? = some u → ((wr.alloc (.cells #[] 3)).alloc (.cells #[.int .i64 (last + 1), .int .i64 now, .int .i64 (-1), .slice (some ⟨wr.heap.size, 0, none⟩) 0 0] 60)).cell? ((⟨wr.heap.size + 1, 0, none⟩ : Addr).add j) = some u) := by
          have h9 := @cells4 (wr.alloc (.cells #[] 3)) 60 (.int .i64 (last + 1)) (.int .i64 now) (.int .i64 (-1)) (.slice (some ⟨wr.heap.size, 0, none⟩) 0 0)
          rw [World.size_alloc] at h9
          exact h9
        clear f1 f2 f3 HST
        go_wp2_with (first
          | (at_builtin; refine wpList_append_own_none rfl _ _ 26 rfl wr.heap.size 3 i3 1 Try.underlying26 HZ3.out.1 (.slice (some ⟨wr.heap.size, 0, none⟩) 0 0) 0 [] rfl O0.out rfl ?_)
          | (at_builtin; refine wpList_append_own _ rfl _ _ 38 rfl w.heap.size 60 i0 _ 4 48 Try.underlying38 HZ.out.1 HZ.out.2.1 HZ.out.2.2.1 HZ.out.2.2.2 rfl (by decide) (.slice A' j c') j (flatV us) rfl R5.out ⟨wr.heap.size + 1, 0, none⟩ 1 1 [.int .i64 (last + 1), .int .i64 now, .int .i64 (-1), .slice (some ⟨wr.heap.size, 0, none⟩) 0 0] rfl rfl HC4.out one4 h63.out h47.out S5.out ?_; intro v5 w5 hown hgrow _; obtain ⟨A9, c9', rfl, hres⟩ := F5.out w5 v5 hown hgrow; have HRES := Lib.hid hres; clear hown hgrow hres)
          | fail)
        go_returns
        obtain ⟨rs', h1, h2, h3, h4⟩ := HRES.out
        exact ⟨_, _, _, rfl, rs', h1, h2, h3, h4⟩
      | some a =>
        have HNW : Hid (∀ j u, (intsV tab)[j]? = some u → (wr.alloc (.cells #[] 3)).cell? (a.add j) = some u) := (HR.out.later (HU.out.2.2.trans (B0.out.mono HU.out.2.2.size))).news a (fun h => by
          obtain ⟨g, o, e, _⟩ := HR.out h
          rw [e])
        have hlen : Hid ((intsV tab).length = k * 1) := by unfold Hid; rw [intsV, List.length_map, HTL.out]; omega
        have g63 : Hid (0 + k ≤ maxLen) := by unfold Hid maxLen; omega
        have g47 : Hid ((0 + k) * 8 ≤ 140737488355328) := by unfold Hid; omega
        go_wp2_with (first
          | (at_builtin; refine wpList_append_own _ rfl _ _ 26 rfl wr.heap.size 3 i3 _ 1 8 Try.underlying26 HZ3.out.1 HZ3.out.2.1 HZ3.out.2.2.1 HZ3.out.2.2.2 rfl (Nat.succ_pos 0) (.slice (some ⟨wr.heap.size, 0, none⟩) 0 0) 0 [] rfl O0.out a k tc (intsV tab) rfl hlen.out HNW.out intsV_one g63.out g47.out hsz.out ?_; intro v4 W4 hown4 hgrow4 _; obtain ⟨TA', c9, rfl⟩ := own_form hown4 (by decide) hown4.1; rw [Nat.zero_add] at hown4; obtain ⟨f1, f2, f3⟩ := HST.out W4 TA' c9 (by (unfold Tab; rw [HTL.out]; exact hown4)) (B0.out.grown hgrow4 hsz.out (fun z hz => (O0.out.lt z hz).1)); have R5 := Lib.hid f1; have S5 := Lib.hid f2; have F5 := Lib.hid f3; clear f1 f2 f3 hown4 hgrow4; rw [Nat.zero_add])
          | (at_builtin; refine wpList_append_own _ rfl _ _ 38 rfl w.heap.size 60 i0 _ 4 48 Try.underlying38 HZ.out.1 HZ.out.2.1 HZ.out.2.2.1 HZ.out.2.2.2 rfl (by decide) (.slice A' j c') j (flatV us) rfl R5.out ⟨W4.heap.size, 0, none⟩ 1 1 [.int .i64 (last + 1), .int .i64 now, .int .i64 (-1), .slice TA' k c9] rfl rfl cells4 one4 h63.out h47.out S5.out ?_; intro v5 w5 hown hgrow _; obtain ⟨A9, c9', rfl, hres⟩ := F5.out w5 v5 hown hgrow; have HRES := Lib.hid hres; clear hown hgrow hres)
          | fail)
        go_returns
        obtain ⟨rs', h1, h2, h3, h4⟩ := HRES.out
        exact ⟨_, _, _, rs', rfl, h1, h2, h3, h4⟩
end Go.Proofs.Ytblnlmhkaacciaa
