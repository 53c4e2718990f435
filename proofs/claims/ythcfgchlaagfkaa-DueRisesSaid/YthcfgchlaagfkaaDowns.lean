/-
  The walk of heap.down. No condition beyond a row of a machine's size.
-/
import Derived.Test.YthcfgchlaagfkaaUps
namespace Go.Proofs.Ythcfgchlaagfkaa
open Go.ChangeShapes Go.WideShapes Go.ChangeAt Go.RowKit
set_option linter.unusedVariables false
set_option linter.unusedSimpArgs false

/-- Which child is looked at. -/
def pickC (l : List It) (q m : Nat) : Nat := if 2 * q + 2 < m ∧ lessB (gx l (2 * q + 2)) (gx l (2 * q + 1)) = true then 2 * q + 2 else 2 * q + 1
theorem pickC_le (l : List It) (q m : Nat) : ∀ k, 0 < k → k < m → par k = q → leI (gx l (pickC l q m)) (gx l k) := by
  intro k h0 hk hp
  unfold pickC
  rcases child h0 hp with rfl | rfl
  · split
    · rename_i h; exact less_le h.2
    · exact leI_refl _
  · split
    · exact leI_refl _
    · rename_i h
      apply notless_le
      cases hb : lessB (gx l (2 * q + 2)) (gx l (2 * q + 1))
      · rfl
      · exact absurd ⟨hk, hb⟩ h
theorem pickC_lt (l : List It) (q m : Nat) (h : 2 * q + 1 < m) : pickC l q m < m := by
  unfold pickC; split <;> omega
theorem pickC_par (l : List It) (q m : Nat) : par (pickC l q m) = q := by
  unfold pickC; split
  · exact par_2 q
  · exact par_1 q
theorem pickC_gt (l : List It) (q m : Nat) : q < pickC l q m := by
  unfold pickC; split <;> omega
theorem itemsLess_gx (g n c B i k : Nat) (l : List It) (w : World) (h : Row w B (.slice (some ⟨g, 0, none⟩) n c) l) (hn : l.length = n) (hi : i < l.length) (hk : k < l.length) (hm : n ≤ 9223372036854775807) :
    Calls Try.prog 45 #[.slice (some ⟨g, 0, none⟩) n c, .int .i64 (i : Int), .int .i64 (k : Int)] w fun e w' => e = .returned (.bool (lessB (gx l i) (gx l k))) ∧ Below w.heap.size w w' := by
  rw [gx_at l i hi, gx_at l k hk]
  exact itemsLess_any g n c B i k l w h hn hi hk hm
section
variable {w w' : World} {B Q f : Nat} {T : TypeId} {cs : Array Value} {v : Value} {l : List It}
set_option maxHeartbeats 3200000 in
theorem down_any (h : At w B Q f T cs v l) (i0 m : Nat) (hi0 : i0 ≤ m) (hmn : m ≤ l.length) (ha : AlmostDown l i0 i0 m) (hm : l.length ≤ 1000001) :
    Calls Try.prog 25 #[.iface 49 (.pointer (some ⟨Q, f, none⟩)), .int .i64 (i0 : Int), .int .i64 (m : Int)] w fun e w' => (∃ b, e = .returned (.bool b)) ∧ ∃ l', Mend w B Q f T cs v l w' l' ∧ HeapFrom l' i0 m ∧ ∀ k, m ≤ k → gx l' k = gx l k := by
  obtain ⟨A, c, rfl⟩ := h.row.form
  obtain ⟨n, hn⟩ : ∃ n, l.length = n := ⟨_, rfl⟩
  rw [hn] at h hm hmn ⊢
  have hg : ∃ g, 0 < n → A = some ⟨g, 0, none⟩ := by
    by_cases h0 : 0 < n
    · obtain ⟨g, e, _⟩ := h.row.some_ hn h0
      exact ⟨g, fun _ => e⟩
    · exact ⟨0, fun e => absurd e h0⟩
  obtain ⟨g, hg⟩ := hg
  have HG := Lib.hid hg
  have H0 := Lib.hid h
  have HA := Lib.hid ha
  have HN := Lib.hid hn
  clear h ha hn hg
  go_enter Try.func25, Try.ntmps25
  go_wp2_with fail
  go_loopg [7, 8, 9, 10] (m + 1 - i0) (fun gk s7 s8 s9 s10 wr => ∃ q : Nat, s7 = .int .i64 q ∧ gk + q = m + 1 ∧ i0 ≤ q ∧ q ≤ m ∧ Hid (∃ l', Mend w B Q f T cs (.slice A n c) l wr l' ∧ AlmostDown l' i0 q m ∧ ∀ k, m ≤ k → gx l' k = gx l k))
  case atStart => exact ⟨i0, rfl, by omega, by omega, hi0, l, Mend.refl H0.out, HA.out, fun _ _ => rfl⟩
  case round =>
    obtain ⟨q, rfl, hgk, hq0, hqm, l', HM, HD, HX⟩ := hrel
    have x0 := HM.at_.holds
    have hl := HM.len.trans HN.out
    have ML := Lib.hid HM
    have UL := Lib.hid HD
    have XL := Lib.hid HX
    have HL := Lib.hid hl
    have e1 : wrap64 (2 * (q : Int)) = 2 * (q : Int) := IntWalk.wrap64_in _ (by omega)
    have e2 : IntKind.i64.wrap (2 * (q : Int)) = 2 * (q : Int) := IntWalk.i64_in _ (by omega)
    have e3 : wrap64 (2 * (q : Int) + 1) = 2 * (q : Int) + 1 := IntWalk.wrap64_in _ (by omega)
    have e4 : IntKind.i64.wrap (2 * (q : Int) + 1) = 2 * (q : Int) + 1 := IntWalk.i64_in _ (by omega)
    have e5 : wrap64 (2 * (q : Int) + 1 + 1) = 2 * (q : Int) + 1 + 1 := IntWalk.wrap64_in _ (by omega)
    have e6 : IntKind.i64.wrap (2 * (q : Int) + 1 + 1) = 2 * (q : Int) + 1 + 1 := IntWalk.i64_in _ (by omega)
    by_cases h1 : m ≤ 2 * q + 1
    · have b1 : (m : Int) ≤ 2 * (q : Int) + 1 := by omega
      clear HM HD HX hl
      go_wp2_with fail
      go_ret
      exact ⟨⟨_, rfl⟩, l', ML.out, UL.out.leaf h1, XL.out⟩
    · have b1 : ¬ (m : Int) ≤ 2 * (q : Int) + 1 := by omega
      have b2 : ¬ 2 * (q : Int) + 1 < 0 := by omega
      obtain rfl := HG.out (by omega)
      by_cases h2 : 2 * q + 2 < m
      · have b3 : 2 * (q : Int) + 1 + 1 < (m : Int) := by omega
        have hml := meth_less ⟨Q, f, none⟩ (some ⟨g, 0, none⟩) n c wr x0
        have i1 : 2 * q + 1 < l'.length := by omega
        have i2 : 2 * q + 2 < l'.length := by omega
        have HF := Lib.hid (itemsLess_gx g n c B (2 * q + 2) (2 * q + 1) l' wr HM.at_.row hl i2 i1 (by omega))
        have ef1 : ((2 * q + 1 : Nat) : Int) = 2 * (q : Int) + 1 := by omega
        have ef2 : ((2 * q + 2 : Nat) : Int) = 2 * (q : Int) + 1 + 1 := by omega
        rw [ef1, ef2] at HF
        by_cases hbf : lessB (gx l' (2 * q + 2)) (gx l' (2 * q + 1)) = true
        · rw [hbf] at HF
          have hp : pickC l' q m = 2 * q + 2 := by unfold pickC; rw [if_pos ⟨h2, hbf⟩]
          have HP := Lib.hid hp
          clear HM HD HX hl hbf i1 i2 hp
          go_wp2_with fail
          refine HF.out.mono ?_; rintro e wf ⟨rfl, hf⟩
          have MF := Lib.hid (ML.out.later hf)
          clear hf
          have hpc : pickC l' q m = 2 * q + 2 := HP.out
          have hjm : 2 * q + 2 < m := by omega
          have hjl : 2 * q + 2 < l'.length := by have := HL.out; omega
          have hql : q < l'.length := by have := HL.out; omega
          have xt := MF.out.at_.holds
          have hmt := meth_less ⟨Q, f, none⟩ (some ⟨g, 0, none⟩) n c wf xt
          have HT := Lib.hid (itemsLess_gx g n c B (2 * q + 2) q l' wf MF.out.at_.row HL.out hjl hql (by omega))
          have ej : ((2 * q + 2 : Nat) : Int) = 2 * (q : Int) + 1 + 1 := by omega
          rw [ej] at HT
          have HJL := Lib.hid hjl
          have HQL := Lib.hid hql
          have HPK := Lib.hid (pickC_le l' q m)
          have HPP := Lib.hid (pickC_par l' q m)
          rw [hpc] at HPK HPP
          have HPC := Lib.hid hpc
          clear hpc
          by_cases hbt : lessB (gx l' (2 * q + 2)) (gx l' q) = true
          · rw [hbt] at HT
            have hle : leI (gx l' (2 * q + 2)) (gx l' q) := less_le hbt
            have HLE := Lib.hid hle
            clear hbt hle hjl hql
            go_wp2_with fail
            refine HT.out.mono ?_; rintro e wt ⟨rfl, ht⟩
            have MT := Lib.hid (MF.out.later ht)
            have x2 := MT.out.at_.holds
            have hms := meth_swap ⟨Q, f, none⟩ (some ⟨g, 0, none⟩) n c wt x2
            have HS := Lib.hid (swap_any g n c B q (2 * q + 2) l' wt MT.out.at_.row HL.out HQL.out HJL.out (by omega))
            rw [ej] at HS
            clear ht
            go_wp2_with fail
            refine HS.out.mono ?_; rintro e ws ⟨⟨r, rfl⟩, h3, h4⟩
            have MS := Lib.hid (MT.out.swap HQL.out HJL.out h3 (h4.mono (fun b _ e => by rw [e]; rfl)))
            have US := Lib.hid (UL.out.step hq0 (by have := HL.out; omega) hjm (by omega) HPP.out HLE.out HPK.out)
            clear h3 h4
            go_wp2_with fail
            go_roundg (gk - (2 * q + 2 - q))
            case rel =>
              refine ⟨2 * q + 2, by rw [ej], by omega, by omega, by omega, _, MS.out, US.out, fun k hk => ?_⟩
              rw [swapL_gx l' q (2 * q + 2) k HQL.out HJL.out, if_neg (by omega), if_neg (by omega)]
              exact XL.out k hk
            case measure => omega
          · have hb2 : lessB (gx l' (2 * q + 2)) (gx l' q) = false := by simpa using hbt
            rw [hb2] at HT
            have hle : leI (gx l' q) (gx l' (2 * q + 2)) := notless_le hb2
            have HLE := Lib.hid hle
            clear hbt hb2 hle hjl hql
            go_wp2_with fail
            refine HT.out.mono ?_; rintro e wt ⟨rfl, ht⟩
            have MT := Lib.hid (MF.out.later ht)
            clear ht
            go_wp2_with fail
            go_ret
            exact ⟨⟨_, rfl⟩, l', MT.out, UL.out.stop HLE.out HPK.out, XL.out⟩
        · have hbf2 : lessB (gx l' (2 * q + 2)) (gx l' (2 * q + 1)) = false := by simpa using hbf
          rw [hbf2] at HF
          have hp : pickC l' q m = 2 * q + 1 := by unfold pickC; rw [if_neg (by rw [hbf2]; simp)]
          have HP := Lib.hid hp
          clear HM HD HX hl hbf hbf2 i1 i2 hp
          go_wp2_with fail
          refine HF.out.mono ?_; rintro e wf ⟨rfl, hf⟩
          have MF := Lib.hid (ML.out.later hf)
          clear hf
          have hpc : pickC l' q m = 2 * q + 1 := HP.out
          have hjm : 2 * q + 1 < m := by omega
          have hjl : 2 * q + 1 < l'.length := by have := HL.out; omega
          have hql : q < l'.length := by have := HL.out; omega
          have xt := MF.out.at_.holds
          have hmt := meth_less ⟨Q, f, none⟩ (some ⟨g, 0, none⟩) n c wf xt
          have HT := Lib.hid (itemsLess_gx g n c B (2 * q + 1) q l' wf MF.out.at_.row HL.out hjl hql (by omega))
          have ej : ((2 * q + 1 : Nat) : Int) = 2 * (q : Int) + 1 := by omega
          rw [ej] at HT
          have HJL := Lib.hid hjl
          have HQL := Lib.hid hql
          have HPK := Lib.hid (pickC_le l' q m)
          have HPP := Lib.hid (pickC_par l' q m)
          rw [hpc] at HPK HPP
          have HPC := Lib.hid hpc
          clear hpc
          by_cases hbt : lessB (gx l' (2 * q + 1)) (gx l' q) = true
          · rw [hbt] at HT
            have hle : leI (gx l' (2 * q + 1)) (gx l' q) := less_le hbt
            have HLE := Lib.hid hle
            clear hbt hle hjl hql
            go_wp2_with fail
            refine HT.out.mono ?_; rintro e wt ⟨rfl, ht⟩
            have MT := Lib.hid (MF.out.later ht)
            have x2 := MT.out.at_.holds
            have hms := meth_swap ⟨Q, f, none⟩ (some ⟨g, 0, none⟩) n c wt x2
            have HS := Lib.hid (swap_any g n c B q (2 * q + 1) l' wt MT.out.at_.row HL.out HQL.out HJL.out (by omega))
            rw [ej] at HS
            clear ht
            go_wp2_with fail
            refine HS.out.mono ?_; rintro e ws ⟨⟨r, rfl⟩, h3, h4⟩
            have MS := Lib.hid (MT.out.swap HQL.out HJL.out h3 (h4.mono (fun b _ e => by rw [e]; rfl)))
            have US := Lib.hid (UL.out.step hq0 (by have := HL.out; omega) hjm (by omega) HPP.out HLE.out HPK.out)
            clear h3 h4
            go_wp2_with fail
            go_roundg (gk - (2 * q + 1 - q))
            case rel =>
              refine ⟨2 * q + 1, by rw [ej], by omega, by omega, by omega, _, MS.out, US.out, fun k hk => ?_⟩
              rw [swapL_gx l' q (2 * q + 1) k HQL.out HJL.out, if_neg (by omega), if_neg (by omega)]
              exact XL.out k hk
            case measure => omega
          · have hb2 : lessB (gx l' (2 * q + 1)) (gx l' q) = false := by simpa using hbt
            rw [hb2] at HT
            have hle : leI (gx l' q) (gx l' (2 * q + 1)) := notless_le hb2
            have HLE := Lib.hid hle
            clear hbt hb2 hle hjl hql
            go_wp2_with fail
            refine HT.out.mono ?_; rintro e wt ⟨rfl, ht⟩
            have MT := Lib.hid (MF.out.later ht)
            clear ht
            go_wp2_with fail
            go_ret
            exact ⟨⟨_, rfl⟩, l', MT.out, UL.out.stop HLE.out HPK.out, XL.out⟩
      · have b3 : ¬ 2 * (q : Int) + 1 + 1 < (m : Int) := by omega
        have hp : pickC l' q m = 2 * q + 1 := by unfold pickC; rw [if_neg (by omega)]
        have HP := Lib.hid hp
        clear HM HD HX hl hp
        have hpc : pickC l' q m = 2 * q + 1 := HP.out
        have hjm : 2 * q + 1 < m := by omega
        have hjl : 2 * q + 1 < l'.length := by have := HL.out; omega
        have hql : q < l'.length := by have := HL.out; omega
        have xt := ML.out.at_.holds
        have hmt := meth_less ⟨Q, f, none⟩ (some ⟨g, 0, none⟩) n c wr xt
        have HT := Lib.hid (itemsLess_gx g n c B (2 * q + 1) q l' wr ML.out.at_.row HL.out hjl hql (by omega))
        have ej : ((2 * q + 1 : Nat) : Int) = 2 * (q : Int) + 1 := by omega
        rw [ej] at HT
        have HJL := Lib.hid hjl
        have HQL := Lib.hid hql
        have HPK := Lib.hid (pickC_le l' q m)
        have HPP := Lib.hid (pickC_par l' q m)
        rw [hpc] at HPK HPP
        have HPC := Lib.hid hpc
        clear hpc
        by_cases hbt : lessB (gx l' (2 * q + 1)) (gx l' q) = true
        · rw [hbt] at HT
          have hle : leI (gx l' (2 * q + 1)) (gx l' q) := less_le hbt
          have HLE := Lib.hid hle
          clear hbt hle hjl hql
          go_wp2_with fail
          refine HT.out.mono ?_; rintro e wt ⟨rfl, ht⟩
          have MT := Lib.hid (ML.out.later ht)
          have x2 := MT.out.at_.holds
          have hms := meth_swap ⟨Q, f, none⟩ (some ⟨g, 0, none⟩) n c wt x2
          have HS := Lib.hid (swap_any g n c B q (2 * q + 1) l' wt MT.out.at_.row HL.out HQL.out HJL.out (by omega))
          rw [ej] at HS
          clear ht
          go_wp2_with fail
          refine HS.out.mono ?_; rintro e ws ⟨⟨r, rfl⟩, h3, h4⟩
          have MS := Lib.hid (MT.out.swap HQL.out HJL.out h3 (h4.mono (fun b _ e => by rw [e]; rfl)))
          have US := Lib.hid (UL.out.step hq0 (by have := HL.out; omega) hjm (by omega) HPP.out HLE.out HPK.out)
          clear h3 h4
          go_wp2_with fail
          go_roundg (gk - (2 * q + 1 - q))
          case rel =>
            refine ⟨2 * q + 1, by rw [ej], by omega, by omega, by omega, _, MS.out, US.out, fun k hk => ?_⟩
            rw [swapL_gx l' q (2 * q + 1) k HQL.out HJL.out, if_neg (by omega), if_neg (by omega)]
            exact XL.out k hk
          case measure => omega
        · have hb2 : lessB (gx l' (2 * q + 1)) (gx l' q) = false := by simpa using hbt
          rw [hb2] at HT
          have hle : leI (gx l' q) (gx l' (2 * q + 1)) := notless_le hb2
          have HLE := Lib.hid hle
          clear hbt hb2 hle hjl hql
          go_wp2_with fail
          refine HT.out.mono ?_; rintro e wt ⟨rfl, ht⟩
          have MT := Lib.hid (ML.out.later ht)
          clear ht
          go_wp2_with fail
          go_ret
          exact ⟨⟨_, rfl⟩, l', MT.out, UL.out.stop HLE.out HPK.out, XL.out⟩
end
end Go.Proofs.Ythcfgchlaagfkaa
