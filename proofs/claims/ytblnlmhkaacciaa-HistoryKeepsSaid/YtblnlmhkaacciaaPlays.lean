/-
  The walk of HistoryPlays. No condition beyond what the slice that came in is.
-/
import Derived.Test.YtblnlmhkaacciaaEq
namespace Go.Proofs.Ytblnlmhkaacciaa
open Go.ChangeShapes Go.WideShapes Go.ChangeAt Go.RowKit
set_option linter.unusedVariables false
set_option linter.unusedSimpArgs false

def stepL (L : List Say) (last now : Int) (tab : List Int) : List Say := if mayS L now = 0 then pushS L last now tab else L
def stepN (L : List Say) (last now : Int) : Int := if mayS L now = 0 then last + 1 else last
/-- The last number is the newest one's. -/
def Numd (L : List Say) (last : Int) : Prop := lastNum L = last ∧ (0 < L.length ↔ 0 < last) ∧ 0 ≤ last
theorem pushS_num (L : List Say) (last now : Int) (tab : List Int) : lastNum (pushS L last now tab) = last + 1 := by
  unfold pushS lastNum
  rw [List.getLast?_append]
  simp
theorem Numd.step {L : List Say} {last : Int} (h : Numd L last) (now : Int) (tab : List Int) : Numd (stepL L last now tab) (stepN L last now) := by
  unfold stepL stepN
  split
  · refine ⟨pushS_num L last now tab, ⟨fun _ => by have := h.2.2; omega, fun _ => by unfold pushS; simp⟩, by have := h.2.2; omega⟩
  · exact h
theorem RefIs.chg {w w' : World} {H B X : Nat} {v x : Value} {vs rs : List Ver} {last : Int} (h : RefIs w X x rs) (hh : HistIs w H B v vs last) (hc : Chg (OwnH H v) w w') : RefIs w' X x rs := by
  refine ⟨⟨h.1.1, h.1.2.imp id fun ⟨g, cap, cur, h1, h2, h3, h4⟩ => ⟨g, cap, cur, h1, h2, Blk.kept h3 hc (fun e => ?_), h4⟩⟩, fun p hp => lies_chg (h.2 p hp) hc hh.no3⟩
  have hb : Blk w g 60 cur := h3
  rcases e with e | e
  · exact (hb.differ hh.blk (by decide)) e
  · obtain ⟨ds, hd⟩ := own_blk hh.row e
    exact (hb.differ hd (by decide)) rfl
theorem push_step {w : World} {H B : Nat} {L : List Say} {last : Int} (A : Option Addr) (n c : Nat) (tab : List Int) (now : Int) (h : Hs w H B L last) (hr : NRow w A tab) (hfar : 0 < n → ∀ a, A = some a → a.block < H) (hn : tab.length = n) (hx : n * 8 ≤ 140737488355328) (hla : 0 ≤ last ∧ last ≤ 1000000) :
    Calls Try.prog 7 #[.pointer (some ⟨H, 0, none⟩), .int .i64 now, .slice A n c] w fun e w' => e = .returned (.int .i64 (mayS L now)) ∧ Hs w' H B (stepL L last now tab) (stepN L last now) ∧ (∀ X x rs, RefIs w X x rs → RefIs w' X x rs) ∧ Chg (Mine H B) w w' := by
  obtain ⟨v, vs, h1, rfl, h3⟩ := h
  by_cases hm : mayL vs now = 0
  · refine (push_any A n c tab now h1 h3 hm hr ?_ hn hx hla).mono ?_
    · rintro hp a ha (e | e)
      · have := hfar hp a ha
        omega
      · have := hfar hp a ha
        have := (h1.row.lt _ e).1
        have := h1.lt
        omega
    · rintro e w2 ⟨v', p, rfl, g1, g2, g3, g4, g5, g6, _⟩
      have hm2 : mayS (sayV vs) now = 0 := by rw [← mayS_of]; exact hm
      refine ⟨by rw [hm2], ⟨v', closeL now (dropOld vs) ++ [p], ?_, ?_, ?_⟩, fun X x rs hr2 => hr2.chg h1 g6, chg_mine g6 (own_mine h1)⟩
      · unfold stepN
        rw [if_pos hm2]
        exact g1
      · unfold stepL
        rw [if_pos hm2, pushS_of vs last now p g2 g3 g4, g5]
      · rw [List.length_append, closeL_len]
        have := dropOld_len h3
        simp
        omega
  · refine (push_no (.slice A n c) now h1 (by omega) hm).mono ?_
    rintro e w2 ⟨rfl, hb⟩
    have hm2 : ¬ mayS (sayV vs) now = 0 := by rw [← mayS_of]; exact hm
    refine ⟨by rw [mayS_of], ⟨v, vs, ?_, ?_, h3⟩, fun X x rs hr2 => hr2.later hb, Chg.of_below hb⟩
    · unfold stepN
      rw [if_neg hm2]
      exact h1.later hb
    · unfold stepL
      rw [if_neg hm2]
theorem refPush_step (A : Option Addr) (n c B : Nat) (rs : List Ver) (last now : Int) (TA : Option Addr) (k tc : Nat) (tab : List Int) (w : World) (h : RefIs w B (.slice A n c) rs) (hB : B ≤ w.heap.size) (hn : rs.length = n) (hl : n ≤ 4) (hr : NRow w TA tab) (htc : TA = none → tc = 0) (hk : tab.length = k) (hx : k * 8 ≤ 140737488355328) (hla : 0 ≤ last ∧ last ≤ 1000000) :
    Calls Try.prog 12 #[.slice A n c, .int .i64 last, .int .i64 now, .slice TA k tc] w fun e w' => ∃ A' n' c' rs', e = .returned (.tuple #[.slice A' n' c', .int .i64 (stepN (sayV rs) last now), .int .i64 (mayS (sayV rs) now)]) ∧ RefIs w' B (.slice A' n' c') rs' ∧ rs'.length = n' ∧ sayV rs' = stepL (sayV rs) last now tab ∧ Below w.heap.size w w' := by
  by_cases hm : mayL rs now = 0
  · have hm2 : mayS (sayV rs) now = 0 := by rw [← mayS_of]; exact hm
    refine (refPush_any A n c B rs last now TA k tc tab w h hB hn hl hm hr htc hk hx hla).mono ?_
    rintro e w2 ⟨A', n', c', rs', rfl, h1, h2, h3, h4⟩
    refine ⟨A', n', c', rs', ?_, h1, h2, ?_, h4⟩
    · unfold stepN
      rw [if_pos hm2, hm2]
    · unfold stepL
      rw [if_pos hm2, h3]
  · have hm2 : ¬ mayS (sayV rs) now = 0 := by rw [← mayS_of]; exact hm
    refine (refPush_no A n c B rs last now (.slice TA k tc) w h hn hl hm).mono ?_
    rintro e w2 ⟨rfl, rfl⟩
    refine ⟨A, n, c, rs, ?_, h, hn, ?_, Below.refl _ _⟩
    · unfold stepN
      rw [if_neg hm2, mayS_of]
    · unfold stepL
      rw [if_neg hm2]
/-- What holds between two pushes. -/
structure PlayI (w : World) (H B : Nat) (i k c : Nat) (A : Option Addr) (rs : List Ver) (L : List Say) (last : Int) (wr : World) : Prop where
  hs : Hs wr H B L last
  ref : RefIs wr w.heap.size (.slice A k c) rs
  len : rs.length = k
  say : sayV rs = L
  bel : Below w.heap.size w wr
  num : Numd L last
  up : last ≤ i
theorem PlayI.few {w wr : World} {H B i k c : Nat} {A : Option Addr} {rs : List Ver} {L : List Say} {last : Int} (h : PlayI w H B i k c A rs L last wr) : k ≤ 4 := by
  have h1 := h.hs.len
  rw [← h.say, ← h.len] at *
  simpa [sayV] using h1
theorem PlayI.later {w wr w' : World} {H B i k c : Nat} {A : Option Addr} {rs : List Ver} {L : List Say} {last : Int} (h : PlayI w H B i k c A rs L last wr) (hb : Below wr.heap.size wr w') : PlayI w H B i k c A rs L last w' :=
  ⟨h.hs.later hb, h.ref.later hb, h.len, h.say, h.bel.trans (hb.mono h.bel.size), h.num, h.up⟩
set_option maxRecDepth 100000 in
set_option maxHeartbeats 12800000 in
theorem plays_walk (A : Option Addr) (len cap u : Nat) (w : World) (hr : StepsIn w A len) (hlen : len ≤ 9223372036854775807) (hu : u < 18446744073709551616) :
    Calls Try.prog 4 #[.slice A len cap, .int .u64 (u : Int)] w fun e w' => e = .returned (.bool true) ∧ Below w.heap.size w w' := by
  have HR := Lib.hid hr
  clear hr
  go_enter Try.func4, Try.ntmps4
  go_wp2_with fail
  refine (new_any _).mono ?_; rintro e w1 ⟨H, rfl, h1, hH, hb1⟩
  have P0 : Hid (PlayI w H w1.heap.size 0 0 0 none [] [] 0 w1) := ⟨⟨_, [], h1, rfl, by simp⟩, ⟨World.ownsRow_nil _ _ _ _, by simp⟩, rfl, rfl, hb1, ⟨rfl, by simp, by omega⟩, by omega⟩
  obtain ⟨B, hB⟩ : ∃ B, w1.heap.size = B := ⟨_, rfl⟩
  rw [hB] at P0
  clear h1 hb1 hB
  go_wp2_with fail
  go_loopg [6, 7, 8, 9, 10, 11, 12, 13, 14, 15, 16, 17, 18] 41 (fun gk s6 s7 s8 s9 s10 s11 s12 s13 s14 s15 s16 s17 s18 wr => ∃ (i k c : Nat) (A' : Option Addr) (rs : List Ver) (L : List Say) (last : Int), s6 = .slice A' k c ∧ s7 = .int .i64 last ∧ s8 = .int .i64 i ∧ gk + i = 41 ∧ i ≤ len ∧ i ≤ 40 ∧ Hid (PlayI w H B i k c A' rs L last wr))
  case atStart => exact ⟨0, 0, 0, none, [], [], 0, rfl, rfl, rfl, by omega, by omega, by omega, P0.out⟩
  case round =>
    obtain ⟨i, k, c, A', rs, L, last, rfl, rfl, rfl, hgi, hin, hih, HI⟩ := hrel
    clear P0
    by_cases hlt : i < len
    · by_cases h40 : i < 40
      · obtain ⟨g, o, rfl, hg, hc⟩ := HR.out (by omega)
        obtain ⟨now, Bo, m, cc, tab, z0, z1, hnow, hrow, htl, hm8, hfar, hnil⟩ := hc i hlt
        have y0 := fun W (hb : Below w.heap.size w W) => (hb.cell (p := ⟨g, o + i * 2, none⟩) hg).trans z0
        have y1 := fun W (hb : Below w.heap.size w W) => (hb.cell (p := ⟨g, o + i * 2 + 1, none⟩) hg).trans z1
        have Y0 := Lib.hid y0
        have Y1 := Lib.hid y1
        have x1 := y1 wr HI.out.bel
        have HROW := Lib.hid hrow
        have HFAR := Lib.hid hfar
        have HNIL := Lib.hid hnil
        have HTL := Lib.hid htl
        clear hc z0 z1 hrow hfar hnil htl y0 y1
        by_cases hm : 100 < m
        · have t1 : decide (100 < (m : Int)) = true := by simp; omega
          go_wp2_with (first
            | (go_at_call 10; refine (lives_any _).mono ?_; rintro e w5 ⟨rfl, h5⟩; have H5 := Lib.hid h5; clear h5)
            | fail)
          go_ret
          exact ⟨rfl, HI.out.bel.trans (H5.out.mono HI.out.bel.size)⟩
        · have t1 : decide (100 < (m : Int)) = false := by simp; omega
          have x0 := Y0.out wr HI.out.bel
          have HF := Lib.hid (free_hs now HI.out.hs)
          go_wp2_with fail
          refine HF.out.mono ?_; rintro e w2 ⟨rfl, b2⟩
          have I2 := Lib.hid (HI.out.later b2)
          clear b2 x0 x1 HF HI
          go_upto_region 12 with fail
          have hla : 0 ≤ last ∧ last ≤ 1000000 := ⟨I2.out.num.2.2, by have := I2.out.up; omega⟩
          have hfar2 : 0 < m → ∀ a, Bo = some a → a.block < H := fun hp a ha => Nat.lt_of_lt_of_le (HFAR.out hp a ha) hH
          have d2 : Below w2.heap.size w2 w2.drew := (Below.refl _ _).drew
          have HP := Lib.hid (push_step Bo m cc tab now (I2.out.hs.later d2) (HROW.out.later (I2.out.bel.trans (d2.mono I2.out.bel.size))) hfar2 HTL.out (by omega) hla)
          have x0 : w2.drew.cell? ⟨g, o + i * 2, none⟩ = some (.int .i64 now) := Y0.out _ (I2.out.bel.trans (d2.mono I2.out.bel.size))
          have x1 : w2.drew.cell? ⟨g, o + i * 2 + 1, none⟩ = some (.slice Bo m cc) := Y1.out _ (I2.out.bel.trans (d2.mono I2.out.bel.size))
          have HST : Hid (∀ w3, Hs w3 H B (stepL L last now tab) (stepN L last now) → (∀ X x rs, RefIs w2.drew X x rs → RefIs w3 X x rs) → Chg (Mine H B) w2.drew w3 →
              Below w.heap.size w w3 ∧ RefIs w3 w.heap.size (.slice A' k c) rs) := fun w3 h3 k3 c3 =>
            ⟨mine_below (I2.out.bel.trans (d2.mono I2.out.bel.size)) c3 hH (h3.bounds).1, k3 _ _ _ (I2.out.ref.later d2)⟩
          have b1 : (0 : Int) ≤ (i : Int) := Int.natCast_nonneg i
          have b2 : (i : Int) < (len : Int) := Int.ofNat_lt.2 hlt
          obtain ⟨M, hM⟩ : ∃ M, mayS L now = M := ⟨_, rfl⟩
          obtain ⟨L', hL'⟩ : ∃ L', stepL L last now tab = L' := ⟨_, rfl⟩
          obtain ⟨last', hlast'⟩ : ∃ last', stepN L last now = last' := ⟨_, rfl⟩
          have HNM : Hid (Numd L' last') := by unfold Hid; rw [← hL', ← hlast']; exact I2.out.num.step now tab
          have HUP : Hid (last' ≤ i + 1) := by
            unfold Hid
            rw [← hlast']
            unfold stepN
            have := I2.out.up
            split <;> omega
          have HRP : Hid (∀ w3, RefIs w3 w.heap.size (.slice A' k c) rs → Below w.heap.size w w3 → Calls Try.prog 12 #[.slice A' k c, .int .i64 last, .int .i64 now, .slice Bo m cc] w3 fun e w' => ∃ A2 n2 c2 rs', e = .returned (.tuple #[.slice A2 n2 c2, .int .i64 last', .int .i64 M]) ∧ RefIs w' w.heap.size (.slice A2 n2 c2) rs' ∧ rs'.length = n2 ∧ sayV rs' = L' ∧ Below w3.heap.size w3 w') := fun w3 hr3 hb3 => by
            have h9 := refPush_step A' k c w.heap.size rs last now Bo m cc tab w3 hr3 hb3.size I2.out.len I2.out.few (HROW.out.later hb3) HNIL.out HTL.out (by omega) hla
            rw [I2.out.say, hM, hlast', hL'] at h9
            exact h9
          rw [hM, hL', hlast'] at HP
          rw [hL', hlast'] at HST
          rw [hM]
          clear hla hfar2 d2 hM hL' hlast' HFAR
          go_region_held3 (fun W => W.cell? ⟨g, o + i * 2, none⟩ = some (.int .i64 now) ∧ W.cell? ⟨g, o + i * 2 + 1, none⟩ = some (.slice Bo m cc)) (first | exact ⟨p0, p1⟩ | exact ⟨x0, x1⟩ | go_keep)
            (first
              | (go_at_call 7; refine Calls.mono HP.out ?_; rintro e w3 ⟨rfl, h3, k3, c3⟩; have S3 := Lib.hid h3; have BR := Lib.hid (HST.out w3 h3 k3 c3); clear h3 k3 c3; have p0 := Y0.out w3 BR.out.1; have p1 := Y1.out w3 BR.out.1)
              | fail)
          clear x0 x1 HP HST
          have d3 : Below w3.heap.size w3 w3.drew := (Below.refl _ _).drew
          have hw3 : Below w.heap.size w w3.drew := BR.out.1.trans (d3.mono BR.out.1.size)
          have HRQ := Lib.hid (HRP.out w3.drew (BR.out.2.later d3) hw3)
          have x0 : w3.drew.cell? ⟨g, o + i * 2, none⟩ = some (.int .i64 now) := Y0.out _ hw3
          have x1 : w3.drew.cell? ⟨g, o + i * 2 + 1, none⟩ = some (.slice Bo m cc) := Y1.out _ hw3
          have HST : Hid (∀ w4 A2 n2 c2 rs', RefIs w4 w.heap.size (.slice A2 n2 c2) rs' → rs'.length = n2 → sayV rs' = L' → Below w3.drew.heap.size w3.drew w4 → PlayI w H B (i + 1) n2 c2 A2 rs' L' last' w4) := fun w4 A2 n2 c2 rs' g1 g2 g3 g4 =>
            ⟨S3.out.later (d3.trans g4), g1, g2, g3, hw3.trans (g4.mono hw3.size), HNM.out, by have := HUP.out; (show last' ≤ ((i + 1 : Nat) : Int)); omega⟩
          clear d3 hw3 HRP p0 p1
          go_upto_region 13 with fail
          go_region_held3 (fun W => W.cell? ⟨g, o + i * 2, none⟩ = some (.int .i64 now) ∧ W.cell? ⟨g, o + i * 2 + 1, none⟩ = some (.slice Bo m cc)) (first | exact ⟨p0, p1⟩ | exact ⟨x0, x1⟩ | go_keep)
            (first
              | (go_at_call 12; refine Calls.mono HRQ.out ?_; rintro e w4 ⟨A2, n2, c2, rs', rfl, g1, g2, g3, g4⟩; have I4 := Lib.hid (HST.out w4 A2 n2 c2 rs' g1 g2 g3 g4); clear g1 g2 g3 g4; have p0 := Y0.out w4 I4.out.bel; have p1 := Y1.out w4 I4.out.bel)
              | fail)
          clear x0 x1 p0 p1 HRQ HST BR S3 I2
          go_wp2_with fail
          refine (newest_any _ _ w4 I4.out.hs.tells).mono ?_; rintro e w5 ⟨nu, fr, un, A5, k5, c5, rfl, hnu, b5⟩
          obtain rfl : nu = last' := hnu.trans HNM.out.1
          clear hnu
          obtain ⟨wa, hwa⟩ : ∃ wa, w5.alloc (.cells #[.int .i64 nu, .int .i64 fr, .int .i64 un, .slice A5 k5 c5] 32) = wa := ⟨_, rfl⟩
          have ba : Below w4.heap.size w4 wa := by rw [← hwa]; exact b5.alloc b5.size _
          have KA := Lib.hid (show Blk wa w5.heap.size 32 #[.int .i64 nu, .int .i64 fr, .int .i64 un, .slice A5 k5 c5] by rw [← hwa]; exact Blk.new w5 32 _)
          have I5 := Lib.hid (I4.out.later ba)
          have HWA := Lib.hid hwa
          clear b5 ba hwa I4
          have hLn : L'.length = n2 := by
            rw [← I5.out.say, ← I5.out.len]
            simp [sayV]
          have HLN := Lib.hid hLn
          go_wp2_with fail
          rw [HWA.out]
          refine (pairs_any _ u _ wa I5.out.hs.tells hu).mono ?_; rintro e w6 ⟨v6, rfl, h6, b6⟩
          rw [hLn] at h6
          obtain ⟨A6, c6, rfl⟩ := own_form h6 (by decide) h6.1
          have R6 := Lib.hid h6
          have I6 := Lib.hid (I5.out.later b6)
          have K6 := Lib.hid (KA.out.below b6 KA.out.lt)
          clear h6 b6 I5 KA HWA hLn
          go_wp2_with fail
          refine (refPairs_any A2 n2 c2 w.heap.size u rs' w6 I6.out.ref I6.out.len I6.out.few hu).mono ?_; rintro e w7 ⟨v7, rfl, h7, b7⟩
          rw [I6.out.say] at h7
          obtain ⟨A7, c7, rfl⟩ := own_form h7 (by decide) h7.1
          have R7 := Lib.hid h7
          have R6b := Lib.hid (own_later R6.out b7)
          have I7 := Lib.hid (I6.out.later b7)
          have K7 := Lib.hid (K6.out.below b7 K6.out.lt)
          clear h7 b7 I6 K6 R6
          go_upto_region 17 with fail
          go_cut [15, 127] (fun s15 s127 wx => s127 = .bool false ∧ Hid (Below w7.heap.size w7 wx))
          case first =>
            have HAL := Lib.hid (all_any _ _ w7 I7.out.hs.tells)
            have x0 : w7.cell? ⟨w5.heap.size, 0, none⟩ = some (.int .i64 nu) := K7.out.cell 0
            have HSM : Hid (∀ (w8 : World) (A8 : Option Addr) (n8 c8 : Nat) (qs : List Ver), w8.ownsRow w7.heap.size 32 4 (.slice A8 n8 c8) n8 (flatV qs) → (∀ q ∈ qs, q.lies w8 w7.heap.size) → qs.length = n8 → sayV qs = L' → Below w7.heap.size w7 w8 →
                n8 = n2 ∧ (Calls Try.prog 16 #[.slice A8 n8 c8, .slice A2 n2 c2] w8 fun e w' => e = .returned (.bool true) ∧ Below w8.heap.size w8 w')) := fun w8 A8 n8 c8 qs h1 h2 h3 h4 h5 => by
              have e8 : n8 = n2 := by
                rw [← h3, ← HLN.out, ← h4]
                simp [sayV]
              subst e8
              exact ⟨rfl, same_any A8 A2 n8 c8 c2 w7.heap.size w.heap.size qs rs' w8 h1 h2 h3 (I7.out.ref.later h5) I7.out.len (h4.trans I7.out.say.symm) (by have := I7.out.few; omega)⟩
            by_cases hk0 : n2 = 0
            · have hnu : nu = 0 := by
                have h1 := HNM.out.2.1
                have h2 := HNM.out.2.2
                rw [HLN.out] at h1
                omega
              subst hk0 hnu
              go_wp2_with fail
              refine HAL.out.mono ?_; rintro e w8 ⟨v8, qs, rfl, h8, s8, l8, b8⟩
              obtain ⟨A8, c8, rfl⟩ := own_form h8 (by decide) h8.1
              obtain ⟨n8, hn8⟩ : ∃ n8, qs.length = n8 := ⟨_, rfl⟩
              rw [hn8] at h8 ⊢
              obtain ⟨rfl, hsm⟩ := HSM.out w8 A8 n8 c8 qs h8 l8 hn8 s8 b8
              have SMH := Lib.hid hsm
              have B8 := Lib.hid b8
              clear h8 s8 l8 b8 hn8 hsm
              go_wp2_with fail
              refine SMH.out.mono ?_; rintro e w9 ⟨rfl, b9⟩
              have B9 := Lib.hid (B8.out.trans (b9.mono B8.out.size))
              clear b9
              go_wp2_with fail
              go_meet
              exact ⟨rfl, B9.out⟩
            · have hnu : 0 < nu := by
                have h1 := HNM.out.2.1
                rw [HLN.out] at h1
                omega
              have t5 : decide (0 < nu) = true := decide_eq_true hnu
              have t6 : 0 < n2 := by omega
              go_wp2_with fail
              refine HAL.out.mono ?_; rintro e w8 ⟨v8, qs, rfl, h8, s8, l8, b8⟩
              obtain ⟨A8, c8, rfl⟩ := own_form h8 (by decide) h8.1
              obtain ⟨n8, hn8⟩ : ∃ n8, qs.length = n8 := ⟨_, rfl⟩
              rw [hn8] at h8 ⊢
              obtain ⟨rfl, hsm⟩ := HSM.out w8 A8 n8 c8 qs h8 l8 hn8 s8 b8
              have SMH := Lib.hid hsm
              have B8 := Lib.hid b8
              clear h8 s8 l8 b8 hn8 hsm
              go_wp2_with fail
              refine SMH.out.mono ?_; rintro e w9 ⟨rfl, b9⟩
              have B9 := Lib.hid (B8.out.trans (b9.mono B8.out.size))
              have x0 : w9.cell? ⟨w5.heap.size, 0, none⟩ = some (.int .i64 nu) := (K7.out.below B9.out K7.out.lt).cell 0
              clear b9
              go_wp2_with fail
              go_meet
              exact ⟨rfl, B9.out⟩
          case rest =>
          obtain ⟨rfl, hb8⟩ := hcut
          have I8 := Lib.hid (I7.out.later hb8.out)
          have P6 := Lib.hid (own_later R6b.out hb8.out)
          have P7 := Lib.hid (own_later R7.out hb8.out)
          clear hb8 I7 R6b R7 K7
          obtain ⟨xs, hxs⟩ : ∃ xs, pairsL L' u = xs := ⟨_, rfl⟩
          have hxl : xs.length = n2 := by rw [← hxs, ← HLN.out]; simp [pairsL]
          rw [hxs] at P6 P7
          have HXL := Lib.hid hxl
          have hfew := I8.out.few
          clear hxs hxl
          obtain ⟨gz, hgz⟩ : ∃ gz, gk = gz := ⟨_, rfl⟩
          rw [hgz] at hgi
          go_wp2_with fail
          go_loopg [18] (n2 + 1) (fun gk s18 wi => ∃ j : Nat, s18 = .int .i64 j ∧ gk + j = n2 + 1 ∧ j ≤ n2 ∧ Hid (Below wc.heap.size wc wi))
          case atStart => exact ⟨0, rfl, by omega, by omega, Below.refl _ _⟩
          case round =>
            obtain ⟨j, rfl, hgj, hjn, HJ⟩ := hrel
            by_cases hjl : j < n2
            · have hjx : j < xs.length := by have := HXL.out; omega
              obtain ⟨g6, rfl, _, hc6, cs6, K6, hcs6⟩ := own_cell P6.out (by omega)
              obtain ⟨g7, rfl, _, hc7, cs7, K7, hcs7⟩ := own_cell P7.out (by omega)
              obtain ⟨f0, f1⟩ := flat2_at xs j hjx
              have k6 := K6.below HJ.out K6.lt
              have k7 := K7.below HJ.out K7.lt
              have y0 : wr.cell? ⟨g6, j * 2, none⟩ = some (.int .i64 (xs[j]).1) := ((k6.cell _).trans (hcs6 _ (by omega))).trans f0
              have y1 : wr.cell? ⟨g6, j * 2 + 1, none⟩ = some (.int .i64 (xs[j]).2) := ((k6.cell _).trans (hcs6 _ (by omega))).trans f1
              have z0 : wr.cell? ⟨g7, j * 2, none⟩ = some (.int .i64 (xs[j]).1) := ((k7.cell _).trans (hcs7 _ (by omega))).trans f0
              have z1 : wr.cell? ⟨g7, j * 2 + 1, none⟩ = some (.int .i64 (xs[j]).2) := ((k7.cell _).trans (hcs7 _ (by omega))).trans f1
              obtain ⟨ab, hab⟩ : ∃ ab, xs[j] = ab := ⟨_, rfl⟩
              rw [hab] at y0 y1 z0 z1
              obtain ⟨a, b⟩ := ab
              simp only at y0 y1 z0 z1
              have b3 : (0 : Int) ≤ (j : Int) := Int.natCast_nonneg j
              have b4 : (j : Int) < (n2 : Int) := Int.ofNat_lt.2 hjl
              clear k6 k7 K6 K7 hcs6 hcs7 f0 f1 hc6 hc7 hab
              have e0 := fun k => eq48 a b a b (wr.drewN k)
              simp only [BEq.rfl, Bool.and_self] at e0
              go_upto_region 22 with fail
              go_quiet (fail)
              clear e0
              have HJ2 := Lib.hid (below_draws HJ.out nq)
              go_wp2_with fail
              go_roundg (gk - 1)
              case rel => exact ⟨j + 1, by go_num, by omega, by omega, HJ2.out⟩
              case measure => omega
            · obtain rfl : j = n2 := by omega
              have HREL := Lib.hid (I8.out.later HJ.out)
              go_wp2_with fail
              go_roundg (gz - 1)
              case rel => exact ⟨i + 1, j, c2, A2, rs', L', nu, rfl, rfl, by go_num, by omega, by omega, by omega, HREL.out⟩
              case measure => omega
      · obtain rfl : i = 40 := by omega
        go_wp2_with (go_at_call 10; refine (lives_any _).mono ?_; rintro e w1 ⟨rfl, h1⟩; have H1 := Lib.hid h1; clear h1)
        go_ret
        exact ⟨rfl, HI.out.bel.trans (H1.out.mono HI.out.bel.size)⟩
    · obtain rfl : i = len := by omega
      go_wp2_with (go_at_call 10; refine (lives_any _).mono ?_; rintro e w1 ⟨rfl, h1⟩; have H1 := Lib.hid h1; clear h1)
      go_ret
      exact ⟨rfl, HI.out.bel.trans (H1.out.mono HI.out.bel.size)⟩
end Go.Proofs.Ytblnlmhkaacciaa
