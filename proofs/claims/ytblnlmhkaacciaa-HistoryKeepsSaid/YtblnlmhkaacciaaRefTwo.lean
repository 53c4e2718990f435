/-
  Tables; the walks of harrierref18.from, Two, harrierref20.Ints. No condition beyond a length that is no machine's.
-/
import Derived.Test.YtblnlmhkaacciaaMem
import Derived.WalkSpells
import Derived.WalkLawsBesides
import Derived.RegionTactic
import Derived.Deep.RegionWith
import Derived.BigRegion
import Derived.Deep.DeepCutAuto
import Derived.Deep.LoopGhost
import Derived.OwnWalk
import Derived.Deep.MidRow
import Derived.Deep.RegionHeld3
import Derived.Handy
namespace Go.Proofs.Ytblnlmhkaacciaa
open Go.ChangeShapes Go.WideShapes Go.ChangeAt Go.RowKit
set_option linter.unusedVariables false
set_option linter.unusedSimpArgs false

/-- Numbers that lie somewhere. -/
def NRow (w : World) (A : Option Addr) (l : List Int) : Prop :=
  0 < l.length → ∃ g o, A = some ⟨g, o, none⟩ ∧ g < w.heap.size ∧ ∀ (i : Nat) (h : i < l.length), w.cell? ⟨g, o + i, none⟩ = some (.int .i64 l[i])
theorem NRow.later {w v : World} {A : Option Addr} {l : List Int} (h : NRow w A l) (hb : Below w.heap.size w v) : NRow v A l := fun hn => by
  obtain ⟨g, o, rfl, hg, hc⟩ := h hn
  exact ⟨g, o, rfl, Nat.lt_of_lt_of_le hg hb.size, fun i hi => (hb.cell (p := ⟨g, _, none⟩) hg).trans (hc i hi)⟩
/-- A backend, but another one. -/
def hit (o v : Int) : Bool := decide (0 < v) && !(v == o)
def rotI (n k i : Nat) : Nat := (k + i) % n
def rotL (t : List Int) (k : Nat) : List Int := (List.range t.length).map (fun i => t.getD (rotI t.length k i) 0)
theorem rotL_len (t : List Int) (k : Nat) : (rotL t k).length = t.length := by simp [rotL]
theorem rotL_at (t : List Int) (k i : Nat) (h : i < (rotL t k).length) : (rotL t k)[i] = t.getD (rotI t.length k i) 0 := by simp [rotL]
def fromL (t : List Int) (k : Nat) (o : Int) : Int := ((rotL t k).find? (hit o)).getD 0
theorem find_step (l : List Int) (o : Int) (i : Nat) (h : i < l.length) : (((l.drop i).find? (hit o)).getD 0) = if hit o l[i] = true then l[i] else (((l.drop (i + 1)).find? (hit o)).getD 0) := by
  rw [List.drop_eq_getElem_cons h, List.find?_cons]
  cases hit o l[i] <;> simp
theorem from_any (A : Option Addr) (n c k : Nat) (o : Int) (t : List Int) (w : World) (h : NRow w A t) (hn : t.length = n) (hm : n ≤ 17592186044416) (hk : k < n ∨ n = 0) (hk2 : k ≤ 17592186044416) :
    Calls Try.prog 29 #[.slice A n c, .int .i64 (k : Int), .int .i64 o] w fun e w' => e = .returned (.int .i64 (fromL t k o)) ∧ w' = w := by
  have HH := Lib.hid h
  have HL := Lib.hid hn
  obtain ⟨r, hr⟩ : ∃ r, rotL t k = r := ⟨_, rfl⟩
  obtain ⟨res, hres⟩ : ∃ res, fromL t k o = res := ⟨_, rfl⟩
  have HR := Lib.hid hr
  have h0 : Hid (((r.drop 0).find? (hit o)).getD 0 = res) := by unfold Hid; rw [← hres, ← hr]; rfl
  have hrl : r.length = n := by rw [← hr, rotL_len, hn]
  have HRL := Lib.hid hrl
  have HRES := Lib.hid hres
  clear h hn hr hres hrl
  go_enter Try.func29, Try.ntmps29
  go_wp2_with fail
  go_loopg [7] (n + 1) (fun gk s7 wr => ∃ i : Nat, s7 = .int .i64 i ∧ gk + i = n + 1 ∧ i ≤ n ∧ wr = w ∧ Hid (((r.drop i).find? (hit o)).getD 0 = res))
  case atStart => exact ⟨0, rfl, by omega, by omega, rfl, h0⟩
  case round =>
    obtain ⟨i, rfl, hgi, hin, rfl, HX⟩ := hrel
    by_cases hlt : i < n
    · have hkn : k < n := by omega
      have hil : i < r.length := by rw [HRL.out]; exact hlt
      have hst := find_step r o i hil
      have hri : r[i] = t.getD (rotI n k i) 0 := by
        have h1 := HR.out
        subst h1
        rw [rotL_at, HL.out]
      obtain ⟨q, hq⟩ : ∃ q, rotI n k i = q := ⟨_, rfl⟩
      have hqn : q < n := by rw [← hq]; exact Nat.mod_lt _ (by omega)
      have hqe : (k + i < n → q = k + i) ∧ (n ≤ k + i → q = k + i - n) := by
        rw [← hq]
        refine ⟨fun h => Nat.mod_eq_of_lt h, fun h => ?_⟩
        show (k + i) % n = _
        rw [Nat.mod_eq_sub_mod h, Nat.mod_eq_of_lt (by omega)]
      obtain ⟨g, off, rfl, hg, hc⟩ := HH.out (by have := HL.out; omega)
      have hql : q < t.length := by rw [HL.out]; exact hqn
      obtain ⟨v, hv⟩ : ∃ v, r[i] = v := ⟨_, rfl⟩
      have x0 : wr.cell? ⟨g, off + q, none⟩ = some (.int .i64 v) := by
        rw [hc q hql, ← hv, hri, hq]
        simp [hql]
      rw [hv, HX.out] at hst
      have HST := Lib.hid hst
      have b1 : (0 : Int) ≤ (q : Int) := Int.natCast_nonneg q
      have b2 : (q : Int) < (n : Int) := Int.ofNat_lt.2 hqn
      have e1 : wrap64 ((k : Int) + (i : Int)) = (((k + i : Nat)) : Int) := by rw [IntWalk.wrap64_in _ (by omega)]; omega
      clear hst hri hq hc hv
      go_upto_if 21 with fail
      go_cut [8] (fun s8 wx => s8 = .int .i64 (q : Int) ∧ wx = wr)
      case first =>
        by_cases hc : k + i < n
        · have hq1 := hqe.1 hc
          go_wp2_with fail
          all_goals first | (exfalso; omega) | (go_meet; exact ⟨congrArg (Value.int .i64) (by omega), rfl⟩)
        · have hq1 := hqe.2 (by omega)
          go_wp2_with fail
          all_goals first | (exfalso; omega) | (go_meet; exact ⟨congrArg (Value.int .i64) (by omega), rfl⟩)
      case rest =>
        obtain ⟨rfl, hwc⟩ := hcut
        rw [hwc]
        clear hwc hqe e1
        by_cases hv0 : 0 < v
        · have t1 : decide (0 < v) = true := decide_eq_true hv0
          by_cases hvo : v = o
          · have t2 : (v != o) = false := by simpa using hvo
            have hh : hit o v = false := by unfold hit; simp [hvo]
            clear hvo
            go_wp2_with fail
            go_roundg (gk - 1)
            case rel => exact ⟨i + 1, by go_num, by omega, by omega, rfl, by have := HST.out; rw [hh] at this; exact this.symm⟩
            case measure => omega
          · have t2 : (v != o) = true := by simpa using hvo
            have hh : hit o v = true := by unfold hit; simp [hv0, hvo]
            have hrv : res = v := by have := HST.out; rw [hh] at this; exact this
            clear hvo
            go_wp2_with fail
            go_ret
            exact ⟨by rw [HRES.out, hrv]; rfl, rfl⟩
        · have t1 : decide (0 < v) = false := decide_eq_false hv0
          have hh : hit o v = false := by unfold hit; simp [hv0]
          go_wp2_with fail
          go_roundg (gk - 1)
          case rel => exact ⟨i + 1, by go_num, by omega, by omega, rfl, by have := HST.out; rw [hh] at this; exact this.symm⟩
          case measure => omega
    · obtain rfl : i = n := by omega
      have hrv : res = 0 := by have := HX.out; rw [List.drop_eq_nil_of_le (by rw [HRL.out]; omega)] at this; exact this.symm
      go_wp2_with fail
      go_ret
      exact ⟨by rw [HRES.out, hrv]; rfl, rfl⟩
/-- The two backends of a hash. -/
def twoL (t : List Int) (h : Nat) : Int × Int :=
  if t.length = 0 then (0, 0) else if fromL t (h % t.length) 0 = 0 then (0, 0) else (fromL t (h % t.length) 0, fromL t (h / 4294967296 % t.length) (fromL t (h % t.length) 0))
set_option maxHeartbeats 800000 in
theorem refTwo_any (A : Option Addr) (n c h : Nat) (t : List Int) (w : World) (hr : NRow w A t) (hn : t.length = n) (hm : n ≤ 17592186044416) (hh : h < 18446744073709551616) :
    Calls Try.prog 24 #[.slice A n c, .int .u64 (h : Int)] w fun e w' => e = .returned (.tuple #[.int .i64 (twoL t h).1, .int .i64 (twoL t h).2]) ∧ w' = w := by
  by_cases h0 : n = 0
  · subst h0
    have e1 : twoL t h = (0, 0) := by unfold twoL; rw [if_pos hn]
    rw [e1]
    clear e1 hr hn
    go_enter Try.func24, Try.ntmps24
    go_wp2_with fail
    go_returns
    exact ⟨rfl, rfl⟩
  · have r1 : h % n < n := Nat.mod_lt _ (by omega)
    have r2 : h / 4294967296 % n < n := Nat.mod_lt _ (by omega)
    have C1 := from_any A n c (h % n) 0 t w hr hn hm (.inl r1) (by omega)
    obtain ⟨a, ha⟩ : ∃ a, fromL t (h % n) 0 = a := ⟨_, rfl⟩
    have C2 := from_any A n c (h / 4294967296 % n) a t w hr hn hm (.inl r2) (by omega)
    obtain ⟨b, hb⟩ : ∃ b, fromL t (h / 4294967296 % n) a = b := ⟨_, rfl⟩
    have e0 : twoL t h = if a = 0 then (0, 0) else (a, b) := by
      unfold twoL
      rw [if_neg (by omega), hn, ha, hb]
    rw [ha] at C1
    rw [hb] at C2
    rw [e0]
    obtain ⟨k1, hk1⟩ : ∃ k1, h % n = k1 := ⟨_, rfl⟩
    obtain ⟨k2, hk2⟩ : ∃ k2, h / 4294967296 % n = k2 := ⟨_, rfl⟩
    rw [hk1] at C1 r1
    rw [hk2] at C2 r2
    have HC1 := Lib.hid C1
    have HC2 := Lib.hid C2
    have z0 : ((n : Int) == 0) = false := by simp; omega
    have u1 : IntKind.u64.wrap (n : Int) = (n : Int) := by rw [IntKind.wrap_u64]; omega
    have u2 : Int.tmod (h : Int) (n : Int) = (k1 : Int) := by rw [← hk1]; rfl
    have u3 : Int.tdiv (h : Int) 4294967296 = ((h / 4294967296 : Nat) : Int) := rfl
    clear C1 C2 e0 ha hb hr hn
    go_enter Try.func24, Try.ntmps24
    go_wp2_with fail
    refine HC1.out.mono ?_; rintro e w1 ⟨rfl, rfl⟩
    by_cases ha0 : a = 0
    · subst ha0
      go_wp2_with fail
      go_returns
      exact ⟨rfl, rfl⟩
    · have t1 : (a == 0) = false := by simpa using ha0
      have U5 : Hid (wrap64 ((h : Int) / 4294967296 % (n : Int)) = (k2 : Int)) := by
        unfold Hid
        rw [show (h : Int) / 4294967296 % (n : Int) = (k2 : Int) by rw [← hk2]; rfl]
        exact IntWalk.wrap64_in _ (by omega)
      have HA0 := Lib.hid ha0
      clear ha0
      go_wp2_with fail
      rw [U5.out]
      refine HC2.out.mono ?_; rintro e w2 ⟨rfl, rfl⟩
      go_wp2_with fail
      go_returns
      exact ⟨rfl, rfl⟩
/-- Are two tables the same? -/
theorem ints_any (A A2 : Option Addr) (n c m c2 : Nat) (t s : List Int) (w : World) (h1 : NRow w A t) (h2 : NRow w A2 s) (hn : t.length = n) (hm : s.length = m) (hx : n ≤ 9223372036854775807) :
    Calls Try.prog 9 #[.slice A n c, .slice A2 m c2] w fun e w' => e = .returned (.bool (decide (t = s))) ∧ ∃ k, w' = w.drewN k := by
  by_cases hnm : n = m
  · subst hnm
    have H1 := Lib.hid h1
    have H2 := Lib.hid h2
    have L1 := Lib.hid hn
    have L2 := Lib.hid hm
    clear h1 h2 hn hm
    go_enter Try.func9, Try.ntmps9
    go_wp2_with fail
    go_loopg [5] (n + 1) (fun gk s5 wr => ∃ i : Nat, s5 = .int .i64 i ∧ gk + i = n + 1 ∧ i ≤ n ∧ Hid (∃ k, wr = w.drewN k) ∧ Hid (t.take i = s.take i))
    case atStart => exact ⟨0, rfl, by omega, by omega, ⟨0, rfl⟩, rfl⟩
    case round =>
      obtain ⟨i, rfl, hgi, hin, HB, HX⟩ := hrel
      by_cases hlt : i < n
      · have il : i < t.length := by rw [L1.out]; exact hlt
        have is' : i < s.length := by rw [L2.out]; exact hlt
        obtain ⟨g, o, rfl, hg, hc⟩ := H1.out (by omega)
        obtain ⟨g2, o2, rfl, hg2, hc2⟩ := H2.out (by omega)
        have x0 : wr.drew.cell? ⟨g, o + i, none⟩ = some (.int .i64 t[i]) := by
          obtain ⟨k, hk⟩ := HB.out
          rw [hk]
          exact hc i il
        have x1 : wr.drew.cell? ⟨g2, o2 + i, none⟩ = some (.int .i64 s[i]) := by
          obtain ⟨k, hk⟩ := HB.out
          rw [hk]
          exact hc2 i is'
        have HD1 : Hid (∃ k, wr.drew = w.drewN k) := by
          obtain ⟨k, hk⟩ := HB.out
          exact ⟨k + 1, by rw [hk]; rfl⟩
        have y0 : wr.cell? ⟨g, o + i, none⟩ = some (.int .i64 t[i]) := x0
        have y1 : wr.cell? ⟨g2, o2 + i, none⟩ = some (.int .i64 s[i]) := x1
        have hs : t[i] = s[i] → t.take (i + 1) = s.take (i + 1) := by
          intro h
          rw [List.take_succ_eq_append_getElem il, List.take_succ_eq_append_getElem is', HX.out, h]
        have hall : ¬ t[i] = s[i] → ¬ t = s := fun h e => h (by subst e; rfl)
        obtain ⟨a, ha⟩ : ∃ a, t[i] = a := ⟨_, rfl⟩
        obtain ⟨b, hb⟩ : ∃ b, s[i] = b := ⟨_, rfl⟩
        rw [ha] at x0 y0 hs hall
        rw [hb] at x1 y1 hs hall
        have HS := Lib.hid hs
        have HA := Lib.hid hall
        have b1 : (0 : Int) ≤ (i : Int) := Int.natCast_nonneg i
        have b2 : (i : Int) < (n : Int) := Int.ofNat_lt.2 hlt
        clear hc hc2 ha hb hs hall
        by_cases hab : a = b
        · have hk := HS.out hab
          have HK := Lib.hid hk
          have t1 : (a != b) = false := by simpa using hab
          clear hk hab
          go_wp2_with fail
          go_region
          all_goals
            go_wp2_with fail
            go_roundg (gk - 1)
            case rel => exact ⟨i + 1, by go_num, by omega, by omega, HD1.out, HK.out⟩
            case measure => omega
        · have hk := HA.out hab
          have hd : decide (t = s) = false := decide_eq_false hk
          have HD := Lib.hid hd
          have t1 : (a != b) = true := by simpa using hab
          clear hk hab hd
          go_wp2_with fail
          go_region
          all_goals
            go_wp2_with fail
            go_ret
            exact ⟨by rw [HD.out]; rfl, HD1.out⟩
      · obtain rfl : i = n := by omega
        have hd : decide (t = s) = true := by
          have := HX.out
          rw [List.take_of_length_le (by rw [L1.out]; omega), List.take_of_length_le (by rw [L2.out]; omega)] at this
          exact decide_eq_true this
        have HD := Lib.hid hd
        clear hd
        go_wp2_with fail
        go_ret
        exact ⟨by rw [HD.out]; rfl, HB.out⟩
  · have hd : decide (t = s) = false := decide_eq_false (fun e => hnm (by rw [← hn, ← hm, e]))
    have t1 : ((n : Int) != (m : Int)) = true := by simp; omega
    rw [hd]
    clear h1 h2 hn hm hd
    go_enter Try.func9, Try.ntmps9
    go_wp2_with fail
    go_ret
    exact ⟨rfl, 0, rfl⟩
end Go.Proofs.Ytblnlmhkaacciaa
