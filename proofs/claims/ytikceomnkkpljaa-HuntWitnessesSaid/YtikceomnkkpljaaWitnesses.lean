/-
  The walk of HuntWitnesses. No condition beyond what a slice that came in is.
-/
import Derived.Test.YtikceomnkkpljaaWit
namespace Go.Proofs.Ytikceomnkkpljaa
open Go.ChangeShapes Go.WideShapes Go.ChangeAt Go.RowKit
set_option linter.unusedVariables false
set_option linter.unusedSimpArgs false

set_option maxRecDepth 100000 in
theorem wit_many (A : Option Addr) (n c : Nat) (ps : List (Int × Int)) (x : Int) (w : World) (h4 : 4 < n) :
    Calls Try.prog 5 #[.slice A n c, .int .i64 x] w fun e w' => e = .returned (.bool true) ∧ Below w.heap.size w w' := by
  have t : decide ((4 : Int) < (n : Int)) = true := by simp; omega
  go_enter Try.func5, Try.ntmps5
  go_wp2_with fail
  refine (lives_any _).mono ?_; rintro e w1 ⟨rfl, h1⟩
  have H1 := Lib.hid h1
  clear h1
  go_wp2_with fail
  go_ret
  exact ⟨rfl, H1.out⟩
set_option maxRecDepth 100000 in
theorem wit_none (A : Option Addr) (n c : Nat) (ps : List (Int × Int)) (x : Int) (w : World) (h : PRow w A ps) (hn : ps.length = n) (hc : n ≤ c) (hc2 : c ≤ 9223372036854775807) (hw : ∀ p ∈ ps, wfi p.1 ∧ wfi p.2) (h4 : ¬ 4 < n) (h0 : (newest ps).1 = 0) :
    Calls Try.prog 5 #[.slice A n c, .int .i64 x] w fun e w' => e = .returned (.bool true) ∧ Below w.heap.size w w' := by
  have t : decide ((4 : Int) < (n : Int)) = false := by simp; omega
  have HRN : Hid (∀ W, Below w.heap.size w W → Calls Try.prog 7 #[.slice A n c] W fun e w' => e = .returned (.tuple #[.int .i64 0, .int .i64 (newest ps).2]) ∧ Below W.heap.size W w') := fun W hW => by
    have := newest_any A n c ps W (h.later hW) hn (by omega)
    rw [h0] at this
    exact this
  have HS : Hid (Calls Try.prog 10 #[.slice A n c, .int .i64 x] w fun e w' => e = .returned (.slice none 0 0) ∧ Below w.heap.size w w') := syn_none A n c ps x w h hn (by omega) h0
  obtain ⟨s, hs⟩ : ∃ s, (newest ps).2 = s := ⟨_, rfl⟩
  rw [hs] at HRN
  clear h hn hw hs h0
  go_enter Try.func5, Try.ntmps5
  go_wp2_with fail
  refine HS.out.mono ?_; rintro e w1 ⟨rfl, h1⟩
  have B1 := Lib.hid h1
  clear h1
  go_wp2_with fail
  refine (HRN.out w1 B1.out).mono ?_; rintro e w2 ⟨rfl, h2⟩
  have B2 := Lib.hid (B1.out.trans (h2.mono B1.out.size))
  clear h2
  go_wp2_with fail
  refine (lives_any _).mono ?_; rintro e w3 ⟨rfl, h3⟩
  have B3 := Lib.hid (B2.out.trans (h3.mono B2.out.size))
  clear h3
  go_wp2_with fail
  go_ret
  exact ⟨rfl, B3.out⟩
theorem var3 {P : Addr} {v : Value} (W : World) (h : W.cell? P = some v) : (loadVar 3 P).run Try.prog W = .ok v W := by
  simp [go_sem, loadVar, Try.underlying3, TypeDesc.isRow, h]
theorem var39 {g : Nat} {n d a : Int} (W : World) (h : Blk W g 39 #[.int .i64 n, .int .i64 d, .int .u32 a]) : (loadVar 39 ⟨g, 0, none⟩).run Try.prog W = .ok (.agg #[.int .i64 n, .int .i64 d, .int .u32 a]) W :=
  run_loadVar_row W g 39 39 _ (0, 0) _ h Try.underlying39 rfl size39
theorem adr_ne {n m d e a : Int} (hn : 0 ≤ n ∧ n ≤ 65535) (hm : 0 ≤ m ∧ m ≤ 65535) (h : ¬ n = m) : ¬ adrL n d a = adrL m e a := by
  intro he
  unfold adrL by2 by4 at he
  simp at he
  omega
attribute [-go_sem] loadVar in
set_option maxRecDepth 100000 in
set_option maxHeartbeats 3200000 in
theorem wit_some (A : Option Addr) (n c : Nat) (ps : List (Int × Int)) (x : Int) (w : World) (h : PRow w A ps) (hn : ps.length = n) (hc : n ≤ c) (hc2 : c ≤ 9223372036854775807) (hw : ∀ p ∈ ps, wfi p.1 ∧ wfi p.2) (h4 : ¬ 4 < n) (h0 : ¬ (newest ps).1 = 0) :
    Calls Try.prog 5 #[.slice A n c, .int .i64 x] w fun e w' => e = .returned (.bool true) ∧ Below w.heap.size w w' := by
  have t : decide ((4 : Int) < (n : Int)) = false := by simp; omega
  obtain ⟨f, s, hfs⟩ : ∃ f s, newest ps = (f, s) := ⟨_, _, rfl⟩
  have HRN : Hid (∀ W, Below w.heap.size w W → Calls Try.prog 7 #[.slice A n c] W fun e w' => e = .returned (.tuple #[.int .i64 f, .int .i64 s]) ∧ Below W.heap.size W w') := fun W hW => by
    have := newest_any A n c ps W (h.later hW) hn (by omega)
    rw [hfs] at this
    exact this
  have t0 : (f == 0) = false := by rw [hfs] at h0; simpa using h0
  have HSB := Lib.hid (syn_both A n c ps x w h hn (by omega) hc hc2 hw).1
  have hx := u32w_rng x
  obtain ⟨M, WL0⟩ := wit_law ps (u32w x) f s hfs (by rw [hfs] at h0; exact h0) (by omega)
  obtain ⟨a, ha⟩ : ∃ a, IntKind.u32.wrap x = a := ⟨_, rfl⟩
  rw [show u32w x = a from ha] at HSB hx WL0
  obtain ⟨l, hl⟩ : ∃ l, synL ps a = l := ⟨_, rfl⟩
  rw [hl] at HSB WL0
  obtain ⟨ln, hln⟩ : ∃ ln, l.length = ln := ⟨_, rfl⟩
  have hlen := WL0.len
  have hfew := WL0.few
  rw [hln] at hlen hfew
  have WL := Lib.hid WL0
  have HL := Lib.hid hln
  have HP := Lib.hid h
  have HPL := Lib.hid hn
  have e1 : s = 0 → (ln : Int) - 1 = (M : Int) := fun hs => by rw [if_pos hs] at hlen; omega
  have e2 : ¬ s = 0 → (ln : Int) - 2 = (M : Int) := fun hs => by rw [if_neg hs] at hlen; omega
  have E1 := Lib.hid e1
  have E2 := Lib.hid e2
  have hMl : M < ln := by split at hlen <;> omega
  have tl0 : ((ln : Int) == 0) = false := by simp; omega
  have tl8 : decide ((8 : Int) < (ln : Int)) = false := by simp; omega
  have tM0 : decide ((M : Int) < (0 : Int)) = false := by simp
  have HLN := Lib.hid hlen
  clear h hn hw h0 hfs WL0 hl e1 e2 hlen
  go_enter Try.func5, Try.ntmps5
  go_wp2_with fail
  refine HSB.out.mono ?_; rintro e w1 ⟨v1, rfl, o1, h1⟩
  obtain ⟨A3, c3, rfl⟩ := o1.form
  have B1 := Lib.hid h1
  have R1 := Lib.hid o1.ar
  rw [hln]
  clear h1 o1 hln
  go_wp2_with fail
  refine (HRN.out w1 B1.out).mono ?_; rintro e w2 ⟨rfl, h2⟩
  have B2 := Lib.hid (B1.out.trans (h2.mono B1.out.size))
  have R2 := Lib.hid (R1.out.later h2)
  clear h2
  go_upto_if 44 with fail
  go_cut [8] (fun s8 wx => s8 = .int .i64 M ∧ wx = w2)
  case first =>
    by_cases hs : s = 0
    · have e1 := E1.out hs
      have t9 : (s != 0) = false := by simpa using hs
      clear hs
      go_wp2_with fail
      go_meet
      first | exact ⟨rfl, rfl⟩ | exact ⟨by rw [e1], rfl⟩
    · have e2 := E2.out hs
      have t9 : (s != 0) = true := by simpa using hs
      clear hs
      go_wp2_with fail
      go_meet
      first | exact ⟨rfl, rfl⟩ | exact ⟨by rw [e2], rfl⟩
  case rest =>
    obtain ⟨rfl, hwc⟩ := hcut
    rw [hwc]
    clear hwc
    go_wp2_with fail
    go_loopg [9] (ln + 1) (fun gk s9 wr => ∃ i : Nat, s9 = .int .i64 i ∧ gk + i = ln + 1 ∧ i ≤ ln ∧ Hid (Below w2.heap.size w2 wr))
    case atStart => exact ⟨0, rfl, by omega, by omega, Below.refl _ _⟩
    case round =>
      obtain ⟨i, rfl, hgi, hin, HI⟩ := hrel
      by_cases hlt : i < ln
      · have hil : i < l.length := by rw [HL.out]; exact hlt
        have R3 := Lib.hid (R2.out.later HI.out)
        obtain ⟨g, rfl, hg, hcg⟩ := R3.out (by omega)
        have r1 := load34 (AR.range hcg i hil)
        obtain ⟨q1, q2, q3, q4⟩ := WL.out.at_ i hil
        obtain ⟨ni, hni⟩ : ∃ ni, l[i].1 = ni := ⟨_, rfl⟩
        rw [hni] at q1 q2 q3 q4
        rw [HL.out] at q1
        have rd : 0 ≤ wantDo M ln i ∧ wantDo M ln i ≤ 255 := by unfold wantDo; split <;> (try split) <;> omega
        have HC := split_any ni (wantDo M ln i) a wr q2 rd hx
        rw [q1] at r1
        have r1' : (loadVar 34 ⟨g, i * 16, none⟩).run Try.prog wr = .ok (.agg (adrV ni (wantDo M ln i) a)) wr := r1
        obtain ⟨cs, hcs⟩ : ∃ cs, adrV ni (wantDo M ln i) a = cs := ⟨_, rfl⟩
        rw [hcs] at HC r1'
        have HCC := Lib.hid HC
        have Q1 := Lib.hid q1
        have Q3 := Lib.hid q3
        have Q4 := Lib.hid q4
        have HG := Lib.hid hcg
        clear r1 HC q1 q3 q4 hcg
        have b1 : (0 : Int) ≤ (i : Int) := Int.natCast_nonneg i
        have b2 : (i : Int) < (ln : Int) := Int.ofNat_lt.2 hlt
        obtain ⟨dv, hdv⟩ : ∃ dv, wantDo M ln i = dv := ⟨_, rfl⟩
        rw [hdv] at HCC Q1 rd
        have HDV := Lib.hid hdv
        clear hdv hcs
        go_wp2_with fail
        refine HCC.out.mono ?_; rintro e w3 ⟨rfl, h3⟩
        have B3 := Lib.hid h3
        clear h3
        have v1 : (loadVar 3 ⟨w3.heap.size, 0, none⟩).run Try.prog (w3.alloc (.cells #[.int .i64 ni, .int .i64 dv, .int .u32 a] 39)) = .ok (.int .i64 ni) (w3.alloc (.cells #[.int .i64 ni, .int .i64 dv, .int .u32 a] 39)) := var3 _ ((Blk.new w3 39 #[.int .i64 ni, .int .i64 dv, .int .u32 a]).cell 0)
        go_upto_if 78 with fail
        go_cut [] (fun wx => wx = (w3.alloc (.cells #[.int .i64 ni, .int .i64 dv, .int .u32 a] 39)).alloc (.cells #[.int .i64 ni, .int .i64 dv, .int .u32 a] 39))
        case first =>
          have hdv := HDV.out
          have hlen := HLN.out
          by_cases hA : i + 1 = ln
          · have hd3 : dv = 3 := by rw [← hdv]; unfold wantDo; rw [if_pos hA]
            have hlast : ((i : Int) == (ln : Int) - 1) = true := by simp; omega
            clear hdv hlen hA
            go_wp2_with fail
            go_meet
            exact by rw [hd3]
          · have hlast : ((i : Int) == (ln : Int) - 1) = false := by simp; omega
            by_cases hB : M ≤ i
            · have hd2 : dv = 2 := by rw [← hdv]; unfold wantDo; rw [if_neg hA, if_pos hB]
              clear hdv hlen hA
              go_wp2_with fail
              all_goals first
                | (exfalso; omega)
                | (go_meet; exact by rw [hd2])
            · have hd1 : dv = 1 := by rw [← hdv]; unfold wantDo; rw [if_neg hA, if_neg hB]
              clear hdv hlen hA
              go_wp2_with fail
              all_goals first
                | (exfalso; omega)
                | (go_meet; exact by rw [hd1])
        case rest =>
          obtain ⟨wb, hwb⟩ : ∃ wb, (w3.alloc (.cells #[.int .i64 ni, .int .i64 dv, .int .u32 a] 39)).alloc (.cells #[.int .i64 ni, .int .i64 dv, .int .u32 a] 39) = wb := ⟨_, rfl⟩
          have hcut' := hcut.trans hwb
          have k1 : Blk wb w3.heap.size 39 #[.int .i64 ni, .int .i64 dv, .int .u32 a] := by rw [← hwb]; exact (Blk.new w3 39 _).more _
          have k2 : Blk wb (w3.heap.size + 1) 39 #[.int .i64 ni, .int .i64 dv, .int .u32 a] := by rw [← hwb]; exact Blk.newAt _ 39 _ _ (by simp)
          have BW : Hid (Below wr.heap.size wr wb) := by unfold Hid; rw [← hwb]; exact (B3.out.alloc B3.out.size _).alloc (by have := B3.out.size; simp; omega) _
          rw [hcut']
          clear hcut hcut' hwb v1
          have v1 := var3 wb (k1.cell 0)
          have v2 := var39 wb k1
          have v3 := var39 wb k2
          have v4 := eq39 ni dv a wb
          go_upto_region 21 with fail
          go_cut [9, 113] (fun s9 s113 wx => s9 = .int .i64 i ∧ s113 = .bool false ∧ wx = wb)
          case first =>
            have hlen := HLN.out
            have hq3 := Q3.out
            have hq4 := Q4.out
            by_cases hM : i = M
            · have t5 : (ni != f) = false := by simpa using hq3 hM
              have t6 : ((i : Int) == (M : Int)) = true := by simp; omega
              have t7 : ((i : Int) == (M : Int) + 1) = false := by simp; omega
              clear hlen hq3 hq4
              go_wp2_with fail
              all_goals first | (exfalso; omega) | (go_meet; exact ⟨congrArg (Value.int .i64) (by omega), rfl, rfl⟩)
            · by_cases hM1 : i = M + 1
              · have t5 : (ni != s) = false := by simpa using hq4 hM1
                have t6 : ((i : Int) == (M : Int)) = false := by simp; omega
                have t7 : ((i : Int) == (M : Int) + 1) = true := by simp; omega
                clear hlen hq3 hq4
                go_wp2_with fail
                all_goals first | (exfalso; omega) | (go_meet; exact ⟨congrArg (Value.int .i64) (by omega), rfl, rfl⟩)
              · have t6 : ((i : Int) == (M : Int)) = false := by simp; omega
                have t7 : ((i : Int) == (M : Int) + 1) = false := by simp; omega
                clear hlen hq3 hq4
                go_wp2_with fail
                all_goals first | (exfalso; omega) | (go_meet; exact ⟨congrArg (Value.int .i64) (by omega), rfl, rfl⟩)
          case rest =>
            obtain ⟨rfl, rfl, hwc⟩ := hcut
            rw [hwc]
            clear hwc v1 v2 v3 v4 k1 k2
            have HI3 : Hid (Below w2.heap.size w2 wb) := HI.out.trans (BW.out.mono HI.out.size)
            clear BW
            obtain ⟨gz, hgz⟩ : ∃ gz, gk = gz := ⟨_, rfl⟩
            rw [hgz] at hgi
            go_wp2_with fail
            go_loopg [13] (i + 1) (fun gk s13 wr => ∃ k : Nat, s13 = .int .i64 k ∧ gk + k = i + 1 ∧ k ≤ i ∧ Hid (Below w2.heap.size w2 wr))
            case atStart => exact ⟨0, rfl, by omega, by omega, HI3.out⟩
            case round =>
              obtain ⟨k, rfl, hgk, hki, HK⟩ := hrel
              by_cases hk : k < i
              · by_cases hiM : i < M
                · have hkl : k < l.length := by omega
                  have hgc : ∀ j u, (flatA l)[j]? = some u → wr.drew.cell? ⟨g, j, none⟩ = some u := by
                    intro j u hj
                    have h1 := R2.out
                    obtain ⟨g', e, hg', hc'⟩ := h1 (by omega)
                    injection e with e
                    injection e with e
                    subst e
                    exact (HK.out.cell (p := ⟨g, _, none⟩) hg').trans (hc' j u hj)
                  have r1 := load34 (AR.range hgc k hkl)
                  have r2 := load34 (AR.range hgc i hil)
                  obtain ⟨p1, p2, _, _⟩ := WL.out.at_ k hkl
                  have hne : ¬ l[k].1 = ni := by rw [← hni]; exact WL.out.once k i hil hk hiM
                  obtain ⟨nk, hnk⟩ : ∃ nk, l[k].1 = nk := ⟨_, rfl⟩
                  rw [hnk] at p1 p2 hne
                  obtain ⟨dk, hdk⟩ : ∃ dk, wantDo M l.length k = dk := ⟨_, rfl⟩
                  rw [hdk] at p1
                  rw [p1] at r1
                  rw [Q1.out] at r2
                  have heq := eq34 (adrL nk dk a) (adrL ni dv a) rfl rfl wr.drew
                  rw [decide_eq_false (adr_ne p2 q2 hne)] at heq
                  obtain ⟨ck, hck⟩ : ∃ ck, (u8s (adrL nk dk a)).toArray = ck := ⟨_, rfl⟩
                  obtain ⟨ci, hci⟩ : ∃ ci, (u8s (adrL ni dv a)).toArray = ci := ⟨_, rfl⟩
                  have r1' : (loadVar 34 ⟨g, k * 16, none⟩).run Try.prog wr.drew = .ok (.agg ck) wr.drew := by rw [← hck]; exact r1
                  have r2' : (loadVar 34 ⟨g, i * 16, none⟩).run Try.prog wr.drew = .ok (.agg ci) wr.drew := by rw [← hci]; exact r2
                  rw [hck, hci] at heq
                  clear r1 r2 hck hci hgc p1 p2 hne hnk hdk
                  have d1 : (0 : Int) ≤ (k : Int) := Int.natCast_nonneg k
                  have d2 : (k : Int) < (ln : Int) := by omega
                  go_wp2_with fail
                  go_region
                  all_goals
                    go_wp2_with fail
                    go_roundg (gk - 1)
                    case rel => exact ⟨k + 1, by go_num, by omega, by omega, HK.out.drew⟩
                    case measure => omega
                · go_wp2_with fail
                  go_roundg (gz - 1)
                  case rel => exact ⟨i + 1, by go_num, by omega, by omega, HK.out⟩
                  case measure => omega
              · obtain rfl : k = i := by omega
                go_wp2_with fail
                go_roundg (gz - 1)
                case rel => exact ⟨k + 1, by go_num, by omega, by omega, HK.out⟩
                case measure => omega
      · obtain rfl : ln = i := by omega
        have HS : Hid (Below w2.heap.size w2 wr) := HI.out
        clear HI hin hgi
        go_wp2_with fail
        go_loopg [14] (n + 1) (fun gk s14 wr => ∃ i : Nat, s14 = .int .i64 i ∧ gk + i = n + 1 ∧ i ≤ n ∧ Hid (Below w2.heap.size w2 wr))
        case atStart => exact ⟨0, rfl, by omega, by omega, HS.out⟩
        case round =>
          obtain ⟨i, rfl, hgi, hin, HI⟩ := hrel
          by_cases hi1 : i + 1 < n
          · have b1 : (i : Int) < (n : Int) - 1 := by omega
            have b0 : (0 : Int) ≤ (i : Int) := Int.natCast_nonneg i
            have b2 : (i : Int) < (n : Int) := by omega
            obtain ⟨gz, hgz⟩ : ∃ gz, gk = gz := ⟨_, rfl⟩
            rw [hgz] at hgi
            go_wp2_with fail
            go_loopg [15] 3 (fun gk s15 wr => ∃ k : Nat, s15 = .int .i64 k ∧ gk + k = 3 ∧ k ≤ 2 ∧ Hid (Below w2.heap.size w2 wr))
            case atStart => exact ⟨0, rfl, by omega, by omega, HI.out⟩
            case round =>
              obtain ⟨k, rfl, hgk, hk2, HK⟩ := hrel
              by_cases hk : k < 2
              · have hpi : i < ps.length := by rw [HPL.out]; omega
                obtain ⟨gp, o, rfl, hgp, hcp⟩ := HP.out (by omega)
                obtain ⟨v, hv, hcv⟩ : ∃ v, (v = ps[i].1 ∨ v = ps[i].2) ∧ w.cell? ⟨gp, o + i * 2 + k, none⟩ = some (.int .i64 v) := by
                  rcases (show k = 0 ∨ k = 1 by omega) with rfl | rfl
                  · exact ⟨_, .inl rfl, (hcp i hpi).1⟩
                  · exact ⟨_, .inr rfl, (hcp i hpi).2⟩
                have HV := Lib.hid hv
                have HCV : Hid (∀ W, Below w2.heap.size w2 W → W.cell? ⟨gp, o + i * 2 + k, none⟩ = some (.int .i64 v)) := by
                  intro W hW
                  exact ((B2.out.trans (hW.mono B2.out.size)).cell (p := ⟨gp, _, none⟩) hgp).trans hcv
                have v1 := var3 wr (HCV.out wr HK.out)
                clear hv hcv hcp
                have d0 : (0 : Int) ≤ (k : Int) := Int.natCast_nonneg k
                have d2 : (k : Int) < 2 := by omega
                obtain ⟨gy, hgy⟩ : ∃ gy, gk = gy := ⟨_, rfl⟩
                rw [hgy] at hgk
                go_upto_region 34 with fail
                go_cut [16] (fun s16 wx => s16 = .bool (!isN v) ∧ wx = wr)
                case first =>
                  by_cases q1 : v < 1
                  · have t1 : decide (v < 1) = true := decide_eq_true q1
                    have hN : isN v = false := by unfold isN; simp; omega
                    go_wp2_with fail
                    all_goals first | (exfalso; omega) | (go_meet; exact ⟨by rw [hN]; rfl, rfl⟩)
                  · have t1 : decide (v < 1) = false := decide_eq_false q1
                    by_cases q2 : 65535 < v
                    · have t2 : decide (65535 < v) = true := decide_eq_true q2
                      have hN : isN v = false := by unfold isN; simp; omega
                      go_wp2_with fail
                      all_goals first | (exfalso; omega) | (go_meet; exact ⟨by rw [hN]; rfl, rfl⟩)
                    · have t2 : decide (65535 < v) = false := decide_eq_false q2
                      have hN : isN v = true := by unfold isN; simp; omega
                      go_wp2_with fail
                      all_goals first | (exfalso; omega) | (go_meet; exact ⟨by rw [hN]; rfl, rfl⟩)
                case rest =>
                  obtain ⟨rfl, hwc⟩ := hcut
                  rw [hwc]
                  clear hwc v1
                  go_wp2_with fail
                  go_loopg [16, 17] (M + 1) (fun gk s16 s17 wr => ∃ (m : Nat) (b : Bool), s16 = .bool b ∧ s17 = .int .i64 m ∧ gk + m = M + 1 ∧ m ≤ M ∧ Hid (Below w2.heap.size w2 wr ∧ (b = true ∨ (isN v = true ∧ ∀ (m' : Nat) (h : m' < l.length), m' < m → ¬ l[m'].1 = v))))
                  case atStart =>
                    refine ⟨0, !isN v, rfl, rfl, by omega, by omega, HK.out, ?_⟩
                    cases hb : isN v
                    · exact .inl rfl
                    · exact .inr ⟨rfl, fun m' _ h => absurd h (by omega)⟩
                  case round =>
                    obtain ⟨m, b, rfl, rfl, hgm, hmM, HM⟩ := hrel
                    by_cases hm : m < M
                    · have hml : m < l.length := by rw [HL.out]; omega
                      have R3 := Lib.hid (R2.out.later HM.out.1)
                      obtain ⟨g, rfl, hg, hcg⟩ := R3.out (by omega)
                      have r1 := load34 (AR.range hcg m hml)
                      obtain ⟨q1, q2, _, _⟩ := WL.out.at_ m hml
                      obtain ⟨nm, hnm⟩ : ∃ nm, l[m].1 = nm := ⟨_, rfl⟩
                      rw [hnm] at q1 q2
                      have rd : 0 ≤ wantDo M l.length m ∧ wantDo M l.length m ≤ 255 := by unfold wantDo; split <;> (try split) <;> omega
                      have HC := split_any nm (wantDo M l.length m) a wr q2 rd hx
                      obtain ⟨dm, hdm⟩ : ∃ dm, wantDo M l.length m = dm := ⟨_, rfl⟩
                      rw [hdm] at q1 HC
                      rw [q1] at r1
                      have r1' : (loadVar 34 ⟨g, m * 16, none⟩).run Try.prog wr = .ok (.agg (adrV nm dm a)) wr := r1
                      obtain ⟨cs, hcs⟩ : ∃ cs, adrV nm dm a = cs := ⟨_, rfl⟩
                      rw [hcs] at HC r1'
                      have HCC := Lib.hid HC
                      have HNM := Lib.hid hnm
                      clear r1 HC q1 q2 hcg rd hdm hcs hnm
                      have d3 : (0 : Int) ≤ (m : Int) := Int.natCast_nonneg m
                      have d4 : (m : Int) < (M : Int) := by omega
                      have d5 : (m : Int) < (ln : Int) := by omega
                      go_wp2_with fail
                      refine HCC.out.mono ?_; rintro e w4 ⟨rfl, h4'⟩
                      have B4 := Lib.hid h4'
                      clear h4'
                      go_upto_region 39 with fail
                      obtain ⟨wb, hwb⟩ : ∃ wb, w4.alloc (.cells #[.int .i64 nm, .int .i64 dm, .int .u32 a] 39) = wb := ⟨_, rfl⟩
                      have k1 : Blk wb w4.heap.size 39 #[.int .i64 nm, .int .i64 dm, .int .u32 a] := by rw [← hwb]; exact Blk.new w4 39 _
                      have BW : Hid (Below w2.heap.size w2 wb) := by
                        unfold Hid
                        rw [← hwb]
                        exact (HM.out.1.trans (B4.out.mono HM.out.1.size)).alloc (Nat.le_trans HM.out.1.size B4.out.size) _
                      rw [hwb]
                      clear hwb
                      have v1 := var3 wb.drew (k1.draw.cell 0)
                      have v2 := var3 wb.drew (HCV.out wb.drew BW.out.drew)
                      clear k1
                      have HMB := Lib.hid HM.out.2
                      cases b
                      · go_region
                        all_goals
                          go_wp2_with fail
                          go_roundg (gk - 1)
                          case rel =>
                            refine ⟨m + 1, nm == v, rfl, by go_num, by omega, by omega, BW.out.drew, ?_⟩
                            by_cases hnv : nm = v
                            · exact .inl (by simpa using hnv)
                            · refine .inr ?_
                              rcases HMB.out with h | ⟨h1, h2⟩
                              · cases h
                              · refine ⟨h1, fun m' hl' hlt' => ?_⟩
                                by_cases hmm : m' = m
                                · subst hmm
                                  rw [HNM.out]
                                  exact hnv
                                · exact h2 m' hl' (by omega)
                          case measure => omega
                      · go_region
                        all_goals
                          go_wp2_with fail
                          go_roundg (gk - 1)
                          case rel => exact ⟨m + 1, true, rfl, by go_num, by omega, by omega, BW.out.drew, .inl rfl⟩
                          case measure => omega
                    · obtain rfl : m = M := by omega
                      have HB := Lib.hid HM.out.1
                      have hb : b = true := by
                        rcases HM.out.2 with h | ⟨h1, h2⟩
                        · exact h
                        · obtain ⟨m', hm', hl', he⟩ := WL.out.all i (by rw [HPL.out]; exact hi1) v HV.out h1
                          exact absurd he (h2 m' hm' hl')
                      subst hb
                      go_wp2_with fail
                      go_roundg (gy - 1)
                      case rel => exact ⟨k + 1, by go_num, by omega, by omega, HB.out⟩
                      case measure => omega
              · obtain rfl : k = 2 := by omega
                go_wp2_with fail
                go_roundg (gz - 1)
                case rel => exact ⟨i + 1, by go_num, by omega, by omega, HK.out⟩
                case measure => omega
          · go_wp2_with fail
            refine (lives_any _).mono ?_; rintro e w9 ⟨rfl, h9⟩
            have B9 : Hid (Below w.heap.size w w9) := (B2.out.trans (HI.out.mono B2.out.size)).trans (h9.mono (Nat.le_trans B2.out.size HI.out.size))
            clear h9
            go_wp2_with fail
            go_ret
            exact ⟨rfl, B9.out⟩
theorem witnesses_walk (A : Option Addr) (n c : Nat) (ps : List (Int × Int)) (x : Int) (w : World) (h : PRow w A ps) (hn : ps.length = n) (hc : n ≤ c) (hc2 : c ≤ 9223372036854775807) (hw : ∀ p ∈ ps, wfi p.1 ∧ wfi p.2) :
    Calls Try.prog 5 #[.slice A n c, .int .i64 x] w fun e w' => e = .returned (.bool true) ∧ Below w.heap.size w w' := by
  by_cases h4 : 4 < n
  · exact wit_many A n c ps x w h4
  · by_cases h0 : (newest ps).1 = 0
    · exact wit_none A n c ps x w h hn hc hc2 hw h4 h0
    · exact wit_some A n c ps x w h hn hc hc2 hw h4 h0
end Go.Proofs.Ytikceomnkkpljaa
