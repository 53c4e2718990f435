/-
  The walk of DueRises. No condition.
-/
import Derived.Test.YthcfgchlaagfkaaPlays
namespace Go.Proofs.Ythcfgchlaagfkaa
open Go.ChangeShapes Go.WideShapes Go.ChangeAt Go.RowKit
set_option linter.unusedVariables false
set_option linter.unusedSimpArgs false

def AL (R : Nat → Nat → Int) (i : Nat) : Int × Int := (R i 0, R i 1)
def LA (R : Nat → Nat → Int) (n : Nat) : List (Int × Int) := (List.range n).map (AL R)
theorem LA_succ (R : Nat → Nat → Int) (n : Nat) : LA R (n + 1) = LA R n ++ [AL R n] := by simp [LA, List.range_succ]
theorem LA_len (R : Nat → Nat → Int) (n : Nat) : (LA R n).length = n := by simp [LA]
def cnt (x : Int × Int) (l : List (Int × Int)) : Nat := l.countP (fun p => p.1 == x.1 && p.2 == x.2)
theorem cnt_append (x : Int × Int) (a b : List (Int × Int)) : cnt x (a ++ b) = cnt x a + cnt x b := by simp [cnt]
theorem cnt_one (x p : Int × Int) : cnt x [p] = if (p.1 == x.1 && p.2 == x.2) = true then 1 else 0 := by
  unfold cnt
  rw [List.countP_singleton]
theorem cnt_le (x : Int × Int) (a : List (Int × Int)) : cnt x a ≤ a.length := List.countP_le_length
theorem cnt_perm {x : Int × Int} {a b : List (Int × Int)} (h : a.Perm b) : cnt x a = cnt x b := h.countP_eq _
theorem inc_small (c : Nat) (h : c ≤ 1000) : wrap64 ((c : Int) + 1) = (c : Int) + 1 ∧ IntKind.i64.wrap ((c : Int) + 1) = (c : Int) + 1 :=
  ⟨IntWalk.wrap64_in _ (by omega), IntWalk.i64_in _ (by omega)⟩
/-- What holds while numbers are added. -/
structure RiseI (R : Nat → Nat → Int) (w : World) (H i : Nat) (wr : World) : Prop where
  ex : ∃ v l sq, QIs wr H w.heap.size v l sq ∧ (l.map pr).Perm (LA R i) ∧ 0 ≤ sq ∧ sq ≤ i
  hH : w.heap.size ≤ H
  below : Below w.heap.size w wr
  small : ∀ j, j < i → R j 0 ≤ 10000
/-- What holds while they are taken out. -/
structure TakeI (R : Nat → Nat → Int) (w : World) (len H P n : Nat) (wr : World) (v : Value) (l : List It) (sq la lb : Int) (tk : List (Int × Int)) : Prop where
  q : QIs wr H w.heap.size v l sq
  blk : Blk wr P 32 #[.int .i64 la, .int .i64 lb]
  len_ : l.length + n = len
  perm : (tk ++ l.map pr).Perm (LA R len)
  last : 0 < n → ∀ p ∈ l, leP (la, lb) (pr p)
  hH : w.heap.size ≤ H
  hP : w.heap.size ≤ P
  below : Below w.heap.size w wr
theorem all_both {w : World} {H B : Nat} {v : Value} {l : List It} {sq : Int} {n : Nat} (h : QIs w H B v l sq) (hl : l.length = n) (hm : n ≤ 1000) :
    Calls Try.prog 15 #[.pointer (some ⟨H, 0, none⟩)] w fun e w' => ∃ (A : Option Addr) (c : Nat) (dn : List It), e = .returned (.slice A n c) ∧ dn.Perm l ∧ RefIs w' A n c (dn.map pr) ∧ Below w.heap.size w w' := by
  rcases Nat.eq_zero_or_pos n with h0 | h0
  · subst h0
    obtain rfl : l = [] := List.eq_nil_of_length_eq_zero hl
    refine (all_dead _ h.dead).mono ?_
    rintro e w' ⟨rfl, rfl⟩
    exact ⟨none, 0, [], rfl, .refl _, RefIs.nil _, Below.refl _ _⟩
  · refine (all_q h hl h0 hm).mono ?_
    rintro e w' ⟨o, dn, rfl, hp, hs, ho, hb⟩
    obtain ⟨A, c, rfl⟩ := own_form ho (by decide) ho.1
    exact ⟨A, c, dn, rfl, hp, RefIs.of_own ho (by rw [List.length_map, hp.length_eq, hl]), hb⟩
set_option maxRecDepth 100000 in
set_option maxHeartbeats 12800000 in
theorem rises_walk (R : Nat → Nat → Int) (A : Option Addr) (len cap : Nat) (w : World) (hr : IRow .i64 2 w A len R) (hlen : len ≤ 9223372036854775807) :
    Calls Try.prog 4 #[.slice A len cap] w fun e w' => e = .returned (.bool true) ∧ Below w.heap.size w w' := by
  have HR := Lib.hid hr
  clear hr
  go_enter Try.func4, Try.ntmps4
  go_wp2_with fail
  refine (new_any _).mono ?_; rintro e w1 ⟨H, rfl, h1, hH, hb1⟩
  have P0 : Hid (RiseI R w H 0 w1) := ⟨⟨_, [], 0, h1, .refl _, by omega, by omega⟩, hH, hb1, fun j hj => absurd hj (by omega)⟩
  clear h1 hb1
  by_cases h100 : 100 < len
  · have t1 : decide ((100 : Int) < (len : Int)) = true := decide_eq_true (by omega)
    go_wp2_with (go_at_call 16; refine (lives_any _).mono ?_; rintro e w2 ⟨rfl, h2⟩; have H2 := Lib.hid h2; clear h2)
    go_ret
    exact ⟨rfl, P0.out.below.trans (H2.out.mono P0.out.below.size)⟩
  · have t1 : decide ((100 : Int) < (len : Int)) = false := decide_eq_false (by omega)
    go_wp2_with fail
    go_loopg [4] (len + 1) (fun gk s4 wr => ∃ i : Nat, s4 = .int .i64 i ∧ gk + i = len + 1 ∧ i ≤ len ∧ Hid (RiseI R w H i wr))
    case atStart => exact ⟨0, rfl, by omega, by omega, P0.out⟩
    case round =>
      obtain ⟨i, rfl, hgi, hin, HI⟩ := hrel
      clear P0
      by_cases hlt : i < len
      · obtain ⟨g, o, rfl, hg, hc⟩ := HR.out (by omega)
        have y0 := (HI.out.below.cell (p := ⟨g, o + i * 2 + 0, none⟩) hg).trans (hc i hlt 0 (by omega)).1
        have y1 := (HI.out.below.cell (p := ⟨g, o + i * 2 + 1, none⟩) hg).trans (hc i hlt 1 (by omega)).1
        simp only [Nat.add_zero] at y0
        have b1 : (0 : Int) ≤ (i : Int) := by omega
        have b2 : (i : Int) < (len : Int) := by omega
        clear hc
        by_cases hbig : 10000 < R i 0
        · have t2 : decide (10000 < R i 0) = true := decide_eq_true hbig
          clear hbig
          go_wp2_with (go_at_call 16; refine (lives_any _).mono ?_; rintro e w2 ⟨rfl, h2⟩; have H2 := Lib.hid h2; clear h2)
          go_ret
          exact ⟨rfl, HI.out.below.trans (H2.out.mono HI.out.below.size)⟩
        · have t2 : decide (10000 < R i 0) = false := decide_eq_false hbig
          obtain ⟨v, l, sq, hq, hp, h0, h1⟩ := HI.out.ex
          have hq2 := hq.later ((Below.refl wr.heap.size wr).drew)
          have hll : l.length = i := by have := hp.length_eq; rw [List.length_map, LA_len] at this; exact this
          have HA := Lib.hid (add_q (R i 0) (R i 1) hq2 (by omega) h0 (by omega))
          have RES : Hid (∀ (w2 : World) (v' : Value) (l' : List It), QIs w2 H w.heap.size v' l' (sq + 1) → l'.Perm (l ++ [⟨R i 0, R i 1, sq + 1⟩]) → Chg (OwnQ H v) wr.drew w2 → RiseI R w H (i + 1) w2) := by
            intro w2 v' l' h2 h3 h4
            have hbd : Below w.heap.size w wr.drew := below_draws HI.out.below 1
            refine ⟨⟨v', l', sq + 1, h2, ?_, by omega, by omega⟩, HI.out.hH, hq2.turn HI.out.hH hbd h4, fun j hj => ?_⟩
            · rw [LA_succ]
              have h5 := h3.map pr
              rw [List.map_append] at h5
              exact h5.trans (hp.append_right _)
            · rcases Nat.lt_or_ge j i with h | h
              · exact HI.out.small j h
              · obtain rfl : j = i := by omega
                omega
          clear hq hp hq2 hbig hll
          go_upto_region 11 with fail
          generalize R i 0 = a at *
          generalize R i 1 = b at *
          go_still_tail 11, (by kernel_rfl)
          go_wp2_with fail
          refine HA.out.mono ?_; rintro e w2 ⟨⟨re, rfl⟩, v', l', h2, h3, h4⟩
          have RES2 := Lib.hid (RES.out w2 v' l' h2 h3 h4)
          clear h2 h3 h4 RES
          go_wp2_with fail
          go_roundg (gk - 1)
          case rel => exact ⟨i + 1, by go_num, by omega, by omega, RES2.out⟩
          case measure => omega
      · obtain rfl : i = len := by omega
        have SM := Lib.hid HI.out.small
        obtain ⟨v, l, sq, hq, hp, h0, h1⟩ := HI.out.ex
        have T0 : Hid (TakeI R w i H wr.heap.size 0 (wr.alloc (.cells #[.int .i64 0, .int .i64 0] 32)) v l sq 0 0 []) := by
          have hb : Below wr.heap.size wr (wr.alloc (.cells #[.int .i64 0, .int .i64 0] 32)) := (Below.refl _ _).alloc (Nat.le_refl _) _
          exact ⟨hq.later hb, Blk.new _ _ _, by have := hp.length_eq; rw [List.length_map, LA_len] at this; exact this, hp, fun h => absurd h (by omega), HI.out.hH, HI.out.below.size, HI.out.below.trans (hb.mono HI.out.below.size)⟩
        clear hq hp HI
        obtain ⟨P, hP⟩ : ∃ P, wr.heap.size = P := ⟨_, rfl⟩
        rw [hP] at T0
        go_wp2_with fail
        obtain ⟨wz, hwz⟩ : ∃ wz, wr.alloc (.cells #[.int .i64 0, .int .i64 0] 32) = wz := ⟨_, rfl⟩
        rw [hwz] at T0 ⊢
        clear hwz hP
        obtain ⟨gy, hgy⟩ : ∃ gy, gk = gy := ⟨_, rfl⟩
        rw [hgy] at hgi
        clear hgi hgy hin hlt
        go_loopg [6, 7, 8, 9, 10, 11, 12, 13, 14, 15, 16, 17] (i + 1) (fun gk s6 s7 s8 s9 s10 s11 s12 s13 s14 s15 s16 s17 wt => ∃ n : Nat, s6 = .int .i64 n ∧ gk + n = i + 1 ∧ n ≤ i ∧ Hid (∃ v l sq la lb tk, TakeI R w i H P n wt v l sq la lb tk))
        case atStart => exact ⟨0, rfl, by omega, by omega, _, _, _, _, _, _, T0.out⟩
        case round =>
          obtain ⟨n, rfl, hgn, hnn, v, l, sq, la, lb, tk, HT⟩ := hrel
          clear T0 h0 h1
          have HTH := Lib.hid HT
          by_cases hlt : n < i
          · have hll : l.length = (i - n - 1) + 1 := by have := HT.len_; omega
            obtain ⟨hm1, hm2⟩ := heap_head HT.q.heap (by omega)
            have HP := Lib.hid (peek_q HT.q (by omega) (by omega))
            have hmem : pr (gx l 0) ∈ LA R i := HT.perm.mem_iff.1 (List.mem_append_right _ (List.mem_map_of_mem hm1))
            have hle : (gx l 0).at_ ≤ 10000 := by
              unfold LA at hmem
              obtain ⟨j, hj, e⟩ := List.mem_map.1 hmem
              have h3 : R j 0 = (gx l 0).at_ := congrArg Prod.fst e
              rw [← h3]
              exact SM.out j (List.mem_range.1 hj)
            have HN := Lib.hid (fun w2 hb => next_yes 10000 (HT.q.later (w' := w2) hb) hll (by omega) hle)
            have HL : Hid (0 < n → leP (la, lb) (pr (gx l 0))) := fun h => HT.last h _ hm1
            have HM1 := Lib.hid hm1
            have HM2 := Lib.hid hm2
            have HLL := Lib.hid hll
            generalize gx l 0 = x at *
            obtain ⟨xa, xb, xs⟩ := x
            clear hm1 hm2 hmem hle hll HT
            go_wp2_with fail
            refine HP.out.mono ?_; rintro e w2 ⟨rfl, hb2⟩
            have HB2 := Lib.hid hb2
            have HN2 := Lib.hid (HN.out w2 hb2)
            clear hb2 HN HP
            go_wp2_with fail
            refine HN2.out.mono ?_; rintro e w3 ⟨rfl, v3, l3, hq3, hl3, hp3, hc3⟩
            have hb4 : Below w3.heap.size w3 (w3.alloc (.cells #[.int .i64 xa, .int .i64 xb] 32)) := (Below.refl _ _).alloc (Nat.le_refl _) _
            have hq2 := HTH.out.q.later HB2.out
            have hk2 := HTH.out.blk.below HB2.out HTH.out.blk.lt
            have hk3 := hk2.kept hc3 (hq2.not32 _ _ hk2)
            have hbw2 := HTH.out.below.trans (HB2.out.mono HTH.out.below.size)
            have hbw3 := hq2.turn HTH.out.hH hbw2 hc3
            have hk4 := hk3.below hb4 hk3.lt
            have z0 : (w3.alloc (.cells #[.int .i64 xa, .int .i64 xb] 32)).cell? ⟨P, 0, none⟩ = some (.int .i64 la) := (hk4.cell 0).trans rfl
            have z1 : (w3.alloc (.cells #[.int .i64 xa, .int .i64 xb] 32)).cell? ⟨P, 1, none⟩ = some (.int .i64 lb) := (hk4.cell 1).trans rfl
            have Q4 := Lib.hid (hq3.later hb4)
            have K4 := Lib.hid hk4
            have X4 : Hid (Blk (w3.alloc (.cells #[.int .i64 xa, .int .i64 xb] 32)) w3.heap.size 32 #[.int .i64 xa, .int .i64 xb]) := Blk.new _ _ _
            have HXP : Hid (P ≠ w3.heap.size) := by have := hk3.lt; unfold Hid; omega
            have B4 := Lib.hid (hbw3.trans (hb4.mono hbw3.size))
            have HP3 := Lib.hid hp3
            have hl3' : l3.length = i - n - 1 := hl3
            obtain ⟨xp, hxp⟩ : ∃ xp, w3.heap.size = xp := ⟨_, rfl⟩
            obtain ⟨w4, hw4⟩ : ∃ w4, w3.alloc (.cells #[.int .i64 xa, .int .i64 xb] 32) = w4 := ⟨_, rfl⟩
            have x0 : (w3.alloc (.cells #[.int .i64 xa, .int .i64 xb] 32)).cell? ⟨xp, 0, none⟩ = some (.int .i64 xa) := by rw [← hxp]; exact (X4.out.cell 0).trans rfl
            have x1 : (w3.alloc (.cells #[.int .i64 xa, .int .i64 xb] 32)).cell? ⟨xp, 1, none⟩ = some (.int .i64 xb) := by rw [← hxp]; exact (X4.out.cell 1).trans rfl
            rw [hw4] at Q4 K4 X4 B4 x0 x1 z0 z1
            rw [hxp] at X4 HXP
            clear hq3 hc3 hb4 hq2 hk2 hk3 hbw2 hbw3 hk4 hp3 hl3 HN2
            go_upto_region 19 with fail
            try rw [hw4]
            try rw [hxp]
            clear hw4 hxp
            go_cut [102] (fun s102 wx => s102 = .bool false ∧ wx = w4)
            case first =>
              by_cases hn0 : n = 0
              · subst hn0
                go_wp2_with fail
                go_meet
                exact ⟨rfl, rfl⟩
              · have hlp := HL.out (by omega)
                have b1 : (0 : Int) < (n : Int) := by omega
                unfold leP pr at hlp
                simp only at hlp
                have t1 : decide (xa < la) = false := decide_eq_false (by omega)
                by_cases he : xa = la
                · have t2 : (xa == la) = true := by simpa using he
                  have t3 : decide (xb < lb) = false := decide_eq_false (by omega)
                  clear he hlp
                  go_wp2_with fail
                  go_meet
                  exact ⟨rfl, rfl⟩
                · have t2 : (xa == la) = false := by simpa using he
                  clear he hlp
                  go_wp2_with fail
                  go_meet
                  exact ⟨rfl, rfl⟩
            case rest =>
            obtain ⟨rfl, rfl⟩ := hcut
            obtain ⟨gz, hgz⟩ : ∃ gz, gk = gz := ⟨_, rfl⟩
            rw [hgz] at hgn
            have HW : Hid (wc = wc) := rfl
            have hlen2 : i ≤ 100 := by omega
            clear x0 x1 z0 z1
            go_wp2_with fail
            go_loopg [13, 15] (i + 1) (fun gk s13 s15 wi => ∃ j : Nat, s15 = .int .i64 j ∧ gk + j = i + 1 ∧ j ≤ i ∧ s13 = .int .i64 (cnt (xa, xb) (LA R j) : Nat) ∧ Hid (Below wc.heap.size wc wi))
            case atStart => exact ⟨0, rfl, by omega, by omega, by simp [LA, cnt], Below.refl _ _⟩
            case round =>
              obtain ⟨j, rfl, hgj, hji, rfl, HJ⟩ := hrel
              by_cases hjl : j < i
              · obtain ⟨g, o, rfl, hg, hc⟩ := HR.out (by omega)
                have hbw := B4.out.trans (HJ.out.mono B4.out.size)
                have y0 := (hbw.cell (p := ⟨g, o + j * 2 + 0, none⟩) hg).trans (hc j hjl 0 (by omega)).1
                have y1 := (hbw.cell (p := ⟨g, o + j * 2 + 1, none⟩) hg).trans (hc j hjl 1 (by omega)).1
                simp only [Nat.add_zero] at y0
                have hxk := X4.out.below HJ.out X4.out.lt
                have u0 : wr.cell? ⟨xp, 0, none⟩ = some (.int .i64 xa) := (hxk.cell 0).trans rfl
                have u1 : wr.cell? ⟨xp, 1, none⟩ = some (.int .i64 xb) := (hxk.cell 1).trans rfl
                have hcs : cnt (xa, xb) (LA R (j + 1)) = cnt (xa, xb) (LA R j) + if (R j 0 == xa && R j 1 == xb) = true then 1 else 0 := by
                  rw [LA_succ, cnt_append, cnt_one]; rfl
                have hcl := cnt_le (xa, xb) (LA R j)
                rw [LA_len] at hcl
                have HCS := Lib.hid hcs
                obtain ⟨cj, hcj⟩ : ∃ cj, cnt (xa, xb) (LA R j) = cj := ⟨_, rfl⟩
                rw [hcj] at hcl HCS ⊢
                have b3 : (0 : Int) ≤ (j : Int) := Int.natCast_nonneg j
                have b4 : (j : Int) < (i : Int) := Int.ofNat_lt.2 hjl
                obtain ⟨e5, e6⟩ := inc_small cj (by omega)
                have e0 := fun k => eq32 (R j 0) (R j 1) xa xb (wr.drewN k)
                generalize R j 0 = a at *
                generalize R j 1 = b at *
                clear hc hbw hxk hcs hcj
                by_cases he : (a == xa && b == xb) = true
                · rw [he] at e0 HCS
                  rw [if_pos rfl] at HCS
                  clear he
                  go_upto_region 25 with fail
                  go_quiet (fail)
                  clear e0
                  have HJ2 := Lib.hid (below_draws HJ.out nq)
                  go_wp2_with fail
                  go_roundg (gk - 1)
                  case rel => exact ⟨j + 1, by go_num, by omega, by omega, by rw [HCS.out]; go_num, HJ2.out⟩
                  case measure => omega
                · have he2 : (a == xa && b == xb) = false := by simpa using he
                  rw [he2] at e0 HCS
                  simp only [Bool.false_eq_true, if_false, Nat.add_zero] at HCS
                  clear he he2
                  go_upto_region 25 with fail
                  go_quiet (fail)
                  clear e0
                  have HJ2 := Lib.hid (below_draws HJ.out nq)
                  go_wp2_with fail
                  go_roundg (gk - 1)
                  case rel => exact ⟨j + 1, by go_num, by omega, by omega, by rw [HCS.out], HJ2.out⟩
                  case measure => omega
              · obtain rfl : i = j := by omega
                obtain ⟨tot, htot⟩ : ∃ tot, cnt (xa, xb) (LA R i) = tot := ⟨_, rfl⟩
                have htl := cnt_le (xa, xb) (LA R i)
                rw [LA_len, htot] at htl
                have HTOT := Lib.hid htot
                rw [htot]
                obtain ⟨m, hm⟩ : ∃ m, i - n - 1 = m := ⟨_, rfl⟩
                rw [hm] at hl3'
                have hmi : m + n + 1 = i := by omega
                have Q5 := Lib.hid (Q4.out.later HJ.out)
                have K5 := Lib.hid (K4.out.below HJ.out K4.out.lt)
                have X5 := Lib.hid (X4.out.below HJ.out X4.out.lt)
                have B5 := Lib.hid (B4.out.trans (HJ.out.mono B4.out.size))
                have HA := Lib.hid (all_both Q5.out hl3' (by omega))
                have HL3 := Lib.hid hl3'
                clear htot HJ Q4 K4 X4 B4 hgj hji hjl hm hl3'
                go_wp2_with fail
                refine HA.out.mono ?_; rintro e w6 ⟨A6, c6, dn, rfl, hp6, hr6, hb6⟩
                have hcn : cnt (xa, xb) (dn.map pr) + 1 ≤ tot := by
                  rw [← HTOT.out, ← cnt_perm HTH.out.perm, cnt_append, ← cnt_perm (HP3.out.map pr), List.map_append, cnt_append, cnt_perm (hp6.map pr)]
                  have h9 : cnt (xa, xb) (List.map pr [(⟨xa, xb, xs⟩ : It)]) = 1 := by
                    show cnt (xa, xb) [(xa, xb)] = 1
                    rw [cnt_one]
                    simp
                  omega
                have HCN := Lib.hid hcn
                have R6 := Lib.hid hr6
                have Q6 := Lib.hid (Q5.out.later hb6)
                have K6 := Lib.hid (K5.out.below hb6 K5.out.lt)
                have X6 := Lib.hid (X5.out.below hb6 X5.out.lt)
                have B6 := Lib.hid (B5.out.trans (hb6.mono B5.out.size))
                have hdl : (dn.map pr).length = m := hr6.1
                have HDL := Lib.hid hdl
                obtain ⟨dp, hdp⟩ : ∃ dp, dn.map pr = dp := ⟨_, rfl⟩
                rw [hdp] at HCN R6 HDL
                clear hcn hr6 hb6 hp6 hdl hdp Q5 K5 X5 B5 HA
                go_wp2_with fail
                go_loopg [14, 17] (m + 1) (fun gk s14 s17 wi => ∃ j : Nat, s17 = .int .i64 j ∧ gk + j = m + 1 ∧ j ≤ m ∧ s14 = .int .i64 (cnt (xa, xb) (dp.take j) : Nat) ∧ Hid (Below w6.heap.size w6 wi))
                case atStart => exact ⟨0, rfl, by omega, by omega, by simp [cnt], Below.refl _ _⟩
                case round =>
                  obtain ⟨j, rfl, hgj, hji, rfl, HJ⟩ := hrel
                  by_cases hjl : j < m
                  · have hjd : j < dp.length := by have := HDL.out; omega
                    rcases R6.out.shape with ⟨_, _, hz, _⟩ | ⟨g6, o6, rfl⟩
                    · omega
                    · obtain ⟨y0, y1⟩ := (R6.out.later HJ.out).at_ j hjd
                      have hxk := X6.out.below HJ.out X6.out.lt
                      have u0 : wr.cell? ⟨xp, 0, none⟩ = some (.int .i64 xa) := (hxk.cell 0).trans rfl
                      have u1 : wr.cell? ⟨xp, 1, none⟩ = some (.int .i64 xb) := (hxk.cell 1).trans rfl
                      have hcs : cnt (xa, xb) (dp.take (j + 1)) = cnt (xa, xb) (dp.take j) + if ((dp[j]).1 == xa && (dp[j]).2 == xb) = true then 1 else 0 := by
                        rw [List.take_succ_eq_append_getElem hjd, cnt_append, cnt_one]
                      have hcl := cnt_le (xa, xb) (dp.take j)
                      rw [List.length_take] at hcl
                      have HCS := Lib.hid hcs
                      obtain ⟨cj, hcj⟩ : ∃ cj, cnt (xa, xb) (dp.take j) = cj := ⟨_, rfl⟩
                      rw [hcj] at hcl HCS ⊢
                      have hcj2 : cj ≤ 1000 := by omega
                      have b3 : (0 : Int) ≤ (j : Int) := Int.natCast_nonneg j
                      have b4 : (j : Int) < (m : Int) := Int.ofNat_lt.2 hjl
                      obtain ⟨e5, e6⟩ := inc_small cj (by omega)
                      have e0 := fun k => eq32 (dp[j]).1 (dp[j]).2 xa xb (wr.drewN k)
                      generalize (dp[j]).1 = a at *
                      generalize (dp[j]).2 = b at *
                      clear hxk hcs hcj hcl hjd
                      by_cases he : (a == xa && b == xb) = true
                      · rw [he] at e0 HCS
                        rw [if_pos rfl] at HCS
                        clear he
                        go_upto_region 31 with fail
                        go_quiet (fail)
                        clear e0
                        have HJ2 := Lib.hid (below_draws HJ.out nq)
                        go_wp2_with fail
                        go_roundg (gk - 1)
                        case rel => exact ⟨j + 1, by go_num, by omega, by omega, by rw [HCS.out]; go_num, HJ2.out⟩
                        case measure => omega
                      · have he2 : (a == xa && b == xb) = false := by simpa using he
                        rw [he2] at e0 HCS
                        simp only [Bool.false_eq_true, if_false, Nat.add_zero] at HCS
                        clear he he2
                        go_upto_region 31 with fail
                        go_quiet (fail)
                        clear e0
                        have HJ2 := Lib.hid (below_draws HJ.out nq)
                        go_wp2_with fail
                        go_roundg (gk - 1)
                        case rel => exact ⟨j + 1, by go_num, by omega, by omega, by rw [HCS.out], HJ2.out⟩
                        case measure => omega
                  · obtain rfl : m = j := by omega
                    rw [List.take_of_length_le (by rw [HDL.out]; exact Nat.le_refl _)]
                    have hcn := HCN.out
                    generalize cnt (xa, xb) dp = cr at *
                    have b9 : cr < tot := by omega
                    have b10 : (cr : Int) < (tot : Int) := by omega
                    have b11 : ¬ tot ≤ cr := by omega
                    have hk7 := K6.out.below HJ.out K6.out.lt
                    have hx7 := X6.out.below HJ.out X6.out.lt
                    have hq7 := Q6.out.later HJ.out
                    have hb7 := B6.out.trans (HJ.out.mono B6.out.size)
                    have u0 : wr.cell? ⟨xp, 0, none⟩ = some (.int .i64 xa) := (hx7.cell 0).trans rfl
                    have u1 : wr.cell? ⟨xp, 1, none⟩ = some (.int .i64 xb) := (hx7.cell 1).trans rfl
                    have z0 : wr.cell? ⟨P, 0, none⟩ = some (.int .i64 la) := (hk7.cell 0).trans rfl
                    have z1 : wr.cell? ⟨P, 1, none⟩ = some (.int .i64 lb) := (hk7.cell 1).trans rfl
                    have f0 := hk7.free 0
                    have f1 := hk7.free 1
                    have hc8 : Chg (fun k => k = P) wr ((wr.setCell ⟨P, 0, none⟩ (.int .i64 xa)).setCell ⟨P, 1, none⟩ (.int .i64 xb)) := ((Chg.refl _ _).put (by exact Or.inl rfl) _).put (by exact Or.inl rfl) _
                    have hno := hq7.not32 P _ hk7
                    have RES : Hid (TakeI R w i H P (n + 1) ((wr.setCell ⟨P, 0, none⟩ (.int .i64 xa)).setCell ⟨P, 1, none⟩ (.int .i64 xb)) v3 l3 sq xa xb (tk ++ [(xa, xb)])) := by
                      refine ⟨⟨hq7.at_.kept hc8 (fun e => hno (Or.inl e.symm)) (fun k hk e => hno (Or.inr (by rw [← e]; exact hk))), hq7.heap⟩, (hk7.put 0 _ rfl).put 1 _ rfl, by have := HL3.out; omega, ?_, fun _ p hp => leP_pr (HM2.out p (HP3.out.mem_iff.1 (List.mem_append_left _ hp))), HTH.out.hH, HTH.out.hP, below_chg hb7 hc8 hb7.size (fun k hk e => by have := HTH.out.hP; omega)⟩
                      refine List.Perm.trans ?_ HTH.out.perm
                      have h9 := HP3.out.map pr
                      rw [List.map_append] at h9
                      rw [List.append_assoc]
                      exact List.Perm.append_left tk (List.perm_append_comm.trans h9)
                    clear hk7 hx7 hq7 hb7 hc8 hno hcn HCN R6 Q6 K6 X6 B6 HJ HTOT
                    go_wp2_with fail
                    all_goals first
                      | (exfalso; omega)
                      | skip
                    go_roundg (gz - 1)
                    case rel => exact ⟨n + 1, by go_num, by omega, by omega, _, _, _, _, _, _, RES.out⟩
                    case measure => omega
          · obtain rfl : n = i := by omega
            have hl0 : l = [] := List.eq_nil_of_length_eq_zero (by have := HT.len_; omega)
            subst hl0
            have HL := Lib.hid (len_q HT.q)
            simp only [List.length_nil] at HL
            have BW := Lib.hid HT.below
            clear HT
            go_wp2_with fail
            refine HL.out.mono ?_; rintro e w2 ⟨rfl, rfl⟩
            clear HL
            go_wp2_with (go_at_call 16; refine (lives_any _).mono ?_; rintro e w2 ⟨rfl, h2⟩; have H2 := Lib.hid h2; clear h2)
            go_ret
            exact ⟨rfl, BW.out.trans (H2.out.mono BW.out.size)⟩
end Go.Proofs.Ythcfgchlaagfkaa
