/-
  The walk of HistoryKeeps. No condition beyond what the slice that came in is.
-/
import Derived.Test.YtblnlmhkaacciaaKeepsL
import Derived.Maps.AppendAt
namespace Go.Proofs.Ytblnlmhkaacciaa
open Go.ChangeShapes Go.WideShapes Go.ChangeAt Go.RowKit
set_option linter.unusedVariables false
set_option linter.unusedSimpArgs false

theorem own_kept {w w' : World} {B e s n : Nat} {v : Value} {xs : List Value} {S : Nat → Prop} (h : w.ownsRow B e s v n xs) (hc : Chg S w w') (hn : ∀ k, v.ownBlock = some k → ¬ S k) : w'.ownsRow B e s v n xs :=
  ⟨h.1, h.2.imp id fun ⟨g, cap, cur, h1, h2, h3, h4⟩ => ⟨g, cap, cur, h1, h2, Blk.kept h3 hc (hn g (by rw [h1]; rfl)), h4⟩⟩
theorem HistIs.stays {w w' : World} {H B : Nat} {v : Value} {vs : List Ver} {last : Int} {S : Nat → Prop} (h : HistIs w H B v vs last) (hc : Chg S w w') (h1 : ¬ S H) (h2 : ∀ k, v.ownBlock = some k → ¬ S k) (h3 : ∀ k cs, S k → ¬ Blk w k 3 cs) : HistIs w' H B v vs last :=
  ⟨h.blk.kept hc h1, own_kept h.row hc h2, fun p hp => lies_chg (h.tabs p hp) hc h3, h.lt, Nat.le_trans h.le hc.size⟩
/-- The history, and what was pushed beside it. -/
structure KI (w : World) (H B a ca : Nat) (Aa : Option Addr) (v : Value) (vs : List Ver) (last : Int) (al : List Ver) (wr : World) : Prop where
  hist : HistIs wr H B v vs last
  few : vs.length ≤ 4
  all : wr.ownsRow w.heap.size 32 4 (.slice Aa a ca) a (flatV al)
  alen : al.length = a
  apart : ∀ k, Value.ownBlock (.slice Aa a ca) = some k → v.ownBlock ≠ some k
  tabs : ∀ p ∈ al, NRow w p.A p.tab ∧ p.tab.length ≤ 17592186044416
  bel : Below w.heap.size w wr
  low : w.heap.size ≤ H
section
variable {w wr w' : World} {H B a ca : Nat} {Aa : Option Addr} {v v' : Value} {vs vs' al : List Ver} {last last' : Int}
theorem KI.later (h : KI w H B a ca Aa v vs last al wr) (hb : Below wr.heap.size wr w') : KI w H B a ca Aa v vs last al w' :=
  ⟨h.hist.later hb, h.few, own_later h.all hb, h.alen, h.apart, h.tabs, h.bel.trans (hb.mono h.bel.size), h.low⟩
theorem KI.notH (h : KI w H B a ca Aa v vs last al wr) : ∀ k, Value.ownBlock (.slice Aa a ca) = some k → ¬ k = H := fun k e e2 => by
  obtain ⟨cs, hc⟩ := own_blk h.all e
  exact (hc.differ h.hist.blk (by decide)) e2
theorem KI.pushed (h : KI w H B a ca Aa v vs last al wr) (h1 : HistIs w' H B v' vs' last') (h2 : Chg (OwnH H v) wr w') (h3 : ∀ k, v'.ownBlock = some k → v.ownBlock = some k ∨ wr.heap.size ≤ k) (hl : vs'.length ≤ 4) : KI w H B a ca Aa v' vs' last' al w' := by
  refine ⟨h1, hl, own_kept h.all h2 (fun k e => ?_), h.alen, fun k e e2 => ?_, h.tabs, below_chg h.bel h2 h.bel.size (fun k hk e => ?_), h.low⟩
  · rintro (e2 | e2)
    · exact h.notH k e e2
    · exact h.apart k e e2
  · rcases h3 k e2 with e3 | e3
    · exact h.apart k e e3
    · have := (h.all.lt k e).2
      omega
  · rcases e with e | e
    · have := h.low
      omega
    · have := (h.hist.row.lt k e).1
      have := h.hist.lt
      have := h.low
      omega
/-- The newest one pushed is the newest no more. -/
theorem KI.closed {g : Nat} {p : Ver} {t : List Ver} (now : Int) (h : KI w H B (t.length + 1) ca (some ⟨g, 0, none⟩) v vs last (t ++ [p]) wr) :
    (wr.cell? ⟨g, t.length * 4 + 2, none⟩).isSome = true ∧ wr.frozen? ⟨g, t.length * 4 + 2, none⟩ = false ∧ KI w H B (t.length + 1) ca (some ⟨g, 0, none⟩) v vs last (t ++ [p.shut now]) (wr.setCell ⟨g, t.length * 4 + 2, none⟩ (.int .i64 now)) := by
  obtain ⟨hBg, cs, hb, hcs, htk, hnc, hcm⟩ := row_blk h.all
  have hc2 : Chg (fun k => k = g) wr (wr.setCell ⟨g, t.length * 4 + 2, none⟩ (.int .i64 now)) := Chg.put (Chg.refl _ _) (by exact Or.inl rfl) _
  refine ⟨?_, hb.free _, ⟨h.hist.stays hc2 (fun e => h.notH g rfl e.symm) (fun k e e2 => by subst e2; exact h.apart k rfl e) (fun k cs2 e hb2 => ?_), h.few, ?_, by simp, h.apart, fun q hq => ?_, below_chg h.bel hc2 h.bel.size (fun k hk e => by omega), h.low⟩⟩
  · rw [hb.cell, Array.getElem?_eq_getElem (by omega)]; rfl
  · subst e
    exact (hb.differ hb2 (by decide)) rfl
  · have := (World.ownsRow.stored h.all (t.length * 4 + 2) (.int .i64 now)).1
    rw [flatV_shut] at this
    exact this
  · rcases List.mem_append.1 hq with hq | hq
    · exact h.tabs q (List.mem_append_left _ hq)
    · rw [List.mem_singleton.1 hq]
      exact h.tabs p (by simp)
/-- One more was pushed. -/
theorem KI.more {o : Obj} {x : Value} {p : Ver} (h : KI w H B a ca Aa v vs last al wr) (hown : w'.ownsRow w.heap.size 32 4 x (a + 1) (flatV al ++ p.val)) (hg : (wr.alloc o).grownBy w' (Value.slice Aa a ca).ownBlock) (hx : x.ownBlock = (Value.slice Aa a ca).ownBlock ∨ x.ownBlock = some (wr.alloc o).heap.size) (hp : NRow w p.A p.tab ∧ p.tab.length ≤ 17592186044416) :
    ∃ A2 c2, x = .slice A2 (a + 1) c2 ∧ KI w H B (a + 1) c2 A2 v vs last (al ++ [p]) w' := by
  obtain ⟨A2, c2, rfl⟩ := own_form hown (by decide) hown.1
  have hal : Below wr.heap.size wr (wr.alloc o) := (Below.refl _ _).alloc (Nat.le_refl _) _
  have h2 := h.later hal
  have hc : Chg (fun k => some k = (Value.slice Aa a ca).ownBlock) (wr.alloc o) w' := Chg.of_grown hg
  refine ⟨A2, c2, rfl, h2.hist.stays hc (fun e => h.notH H e.symm rfl) (fun k e e2 => h.apart k e2.symm e) (fun k cs e hb => ?_), h.few, by rw [flatV_append, flatV_single]; exact hown, by rw [List.length_append, h.alen]; rfl, fun k e e2 => ?_, fun q hq => ?_, h2.bel.grown hg h2.bel.size (fun k e => (h2.all.lt k e).1), h.low⟩
  · obtain ⟨ds, hd⟩ := own_blk h2.all e.symm
    exact (hd.differ hb (by decide)) rfl
  · rcases hx with hx | hx
    · exact h.apart k (hx ▸ e) e2
    · rw [hx] at e
      injection e with e
      have := (h2.hist.row.lt k e2).2
      omega
  · rcases List.mem_append.1 hq with hq | hq
    · exact h.tabs q hq
    · rw [List.mem_singleton.1 hq]; exact hp
end
set_option maxRecDepth 100000 in
set_option maxHeartbeats 12800000 in
theorem keeps_walk (A : Option Addr) (len cap : Nat) (w : World) (hr : StepsIn w A len) (hlen : len ≤ 9223372036854775807) :
    Calls Try.prog 3 #[.slice A len cap] w fun e w' => e = .returned (.bool true) ∧ Below w.heap.size w w' := by
  obtain ⟨i0, hi, hz0, hz1, hz2⟩ := info_parts info32
  have HZ := Lib.hid (And.intro hi (And.intro hz0 (And.intro hz1 hz2)))
  have HR := Lib.hid hr
  clear hr hi hz0 hz1 hz2
  go_enter Try.func3, Try.ntmps3
  go_wp2_with fail
  refine (new_any _).mono ?_; rintro e w1 ⟨H, rfl, h1, hH, hb1⟩
  have P0 : Hid (KI w H w1.heap.size 0 0 none (.slice none 0 0) [] 0 [] w1 ∧ Kept (sayV []) (sayV [])) := ⟨⟨h1, by simp, World.ownsRow_nil _ _ _ _, rfl, fun k e => by simp [Value.ownBlock] at e, by simp, hb1, hH⟩, Kept.nil⟩
  obtain ⟨B, hB⟩ : ∃ B, w1.heap.size = B := ⟨_, rfl⟩
  rw [hB] at P0
  clear h1 hb1 hB
  go_wp2_with fail
  go_loopg [4, 5, 6, 7, 8, 9, 10, 11] 41 (fun gk s4 s5 s6 s7 s8 s9 s10 s11 wr => ∃ (i a ca : Nat) (Aa : Option Addr) (v : Value) (vs al : List Ver), s4 = .slice Aa a ca ∧ s5 = .int .i64 i ∧ gk + i = 41 ∧ i ≤ len ∧ i ≤ 40 ∧ a ≤ i ∧ Hid (KI w H B a ca Aa v vs (a : Int) al wr ∧ Kept (sayV al) (sayV vs)))
  case atStart => exact ⟨0, 0, 0, none, _, [], [], rfl, rfl, by omega, by omega, by omega, by omega, P0.out⟩
  case round =>
    obtain ⟨i, a, ca, Aa, v, vs, al, rfl, rfl, hgi, hin, hih, hai, HI⟩ := hrel
    clear P0
    by_cases hlt : i < len
    · by_cases h40 : i < 40
      · obtain ⟨g, o, rfl, hg, hc⟩ := HR.out (by omega)
        obtain ⟨now, Bo, m, cc, tab, z0, z1, hnow, hrow, htl, hm8, hfar, hnil⟩ := hc i hlt
        have Y1 : Hid (∀ W, Below w.heap.size w W → W.cell? ⟨g, o + i * 2 + 1, none⟩ = some (.slice Bo m cc)) := fun W hb => (hb.cell (p := ⟨g, o + i * 2 + 1, none⟩) hg).trans z1
        have x0 : wr.cell? ⟨g, o + i * 2, none⟩ = some (.int .i64 now) := (HI.out.1.bel.cell (p := ⟨g, o + i * 2, none⟩) hg).trans z0
        have x1 := Y1.out wr HI.out.1.bel
        have HROW := Lib.hid hrow
        have HTL := Lib.hid htl
        have HNOW := Lib.hid hnow
        by_cases hm : mayL vs now = 0
        · have HM := Lib.hid hm
          have HP := Lib.hid (push_any Bo m cc tab now HI.out.1.hist HI.out.1.few hm (hrow.later HI.out.1.bel) (fun hp a ha e => by
            have h1 := hfar hp a ha
            rcases e with e | e
            · omega
            · have := (HI.out.1.hist.row.lt _ e).1
              have := HI.out.1.hist.lt
              omega) htl (by omega) ⟨by omega, by omega⟩)
          clear hc z0 z1 hrow htl hfar hnil hm hnow
          go_wp2_with fail
          refine HP.out.mono ?_; rintro e w2 ⟨v', p, rfl, g1, g2, g3, g4, g5, g6, g7⟩
          have hfew : (closeL now (dropOld vs) ++ [p]).length ≤ 4 := by
            have := dropOld_len HI.out.1.few
            rw [List.length_append, closeL_len]
            simp
            omega
          have K2 := Lib.hid (HI.out.1.pushed g1 g6 g7 hfew)
          have HSY : Hid (sayV (closeL now (dropOld vs) ++ [p]) = pushS (sayV vs) (a : Int) now tab) := by
            unfold Hid
            rw [pushS_of vs (a : Int) now p g2 g3 g4, g5]
          obtain ⟨vs', hvs'⟩ : ∃ vs', closeL now (dropOld vs) ++ [p] = vs' := ⟨_, rfl⟩
          rw [hvs'] at K2 HSY
          clear g1 g2 g3 g4 g5 g6 g7 hfew hvs' x0 x1 HP
          go_upto_if 42 with fail
          go_cut [] (fun wx => Hid (∃ Aa2 ca2, Value.slice Aa2 a ca2 = .slice Aa a ca ∧ KI w H B a ca Aa v' vs' ((a : Int) + 1) (closeL now al) wx))
          case first =>
            by_cases ha : a = 0
            · subst ha
              have has : al = [] := List.eq_nil_of_length_eq_zero K2.out.alen
              have HAS : Hid (closeL now al = al) := by unfold Hid; rw [has]; rfl
              clear has
              go_wp2_with fail
              go_meet
              refine ⟨_, _, rfl, ?_⟩
              rw [HAS.out]
              exact K2.out
            · obtain ⟨t, q, hat⟩ : ∃ t q, al = t ++ [q] := by
                rcases List.eq_nil_or_concat al with h | ⟨t, q, h⟩
                · have h9 := K2.out.alen
                  rw [h] at h9
                  simp at h9
                  omega
                · exact ⟨t, q, by rw [h, List.concat_eq_append]⟩
              have hal2 : a = t.length + 1 := by
                have h9 := K2.out.alen
                rw [hat] at h9
                simpa using h9.symm
              have k2 := K2.out
              obtain ⟨g2, hA2, _⟩ := own_cell k2.all (by omega)
              subst hA2
              rw [hat, hal2] at k2
              obtain ⟨q1, q2, q3⟩ := k2.closed now
              obtain ⟨kk, hkk⟩ : ∃ kk, t.length = kk := ⟨_, rfl⟩
              have HCU : Hid (closeL now al = t ++ [q.shut now]) := by unfold Hid; rw [hat, closeL_snoc]
              rw [hkk] at hal2 q1 q2 q3
              obtain ⟨y, hy⟩ := Option.isSome_iff_exists.1 q1
              have Q3 := Lib.hid q3
              subst hal2
              have b2 : (0 : Int) ≤ (kk : Int) := by omega
              have b3 : kk ≤ 40 := by omega
              clear k2 hat hkk q1 q3
              go_wp2_with fail
              go_meet
              refine ⟨_, _, rfl, ?_⟩
              rw [HCU.out]
              exact Q3.out
          case rest =>
          obtain ⟨Aa2, ca2, e9, hK⟩ := hcut.out
          injection e9 with e9 _ e10
          subst e9 e10
          have x1 : wc.cell? ⟨g, o + i * 2 + 1, none⟩ = some (.slice Bo m cc) := Y1.out wc hK.bel
          have KE : Hid (Kept (sayV (closeL now al ++ [(⟨(a : Int) + 1, now, -1, Bo, cc, tab⟩ : Ver)])) (sayV vs')) := by
            unfold Hid
            rw [HSY.out]
            have h9 := HI.out.2.push (last := (a : Int)) (tab := tab) (by rw [← mayS_of]; exact HM.out) (by have := HI.out.1.few; simpa [sayV] using this) HNOW.out.2
            rw [← closeS_of] at h9
            rw [show sayV (closeL now al ++ [(⟨(a : Int) + 1, now, -1, Bo, cc, tab⟩ : Ver)]) = sayV (closeL now al) ++ [((a : Int) + 1, now, -1, tab)] by simp [sayV, Ver.says]]
            exact h9
          have HLF : Hid (lastF (sayV vs') = now) := by unfold Hid; rw [HSY.out, pushS_last]
          have HVAL : Hid ((⟨(a : Int) + 1, now, -1, Bo, cc, tab⟩ : Ver).val = [.int .i64 ((a : Int) + 1), .int .i64 now, .int .i64 (-1), .slice Bo m cc]) := by
            unfold Hid Ver.val Ver.sl
            rw [HTL.out]
          obtain ⟨xl, hxl⟩ : ∃ xl, closeL now al ++ [(⟨(a : Int) + 1, now, -1, Bo, cc, tab⟩ : Ver)] = xl := ⟨_, rfl⟩
          have hal : Below wc.heap.size wc (wc.alloc (.cells #[.int .i64 ((a : Int) + 1), .int .i64 now, .int .i64 (-1), .slice Bo m cc] 32)) := (Below.refl _ _).alloc (Nat.le_refl _) _
          have RW : Hid ((wc.alloc (.cells #[.int .i64 ((a : Int) + 1), .int .i64 now, .int .i64 (-1), .slice Bo m cc] 32)).ownsRow w.heap.size 32 4 (.slice Aa2 a ca2) a (flatV (closeL now al))) := own_later hK.all hal
          have HS2 : Hid (w.heap.size ≤ (wc.alloc (.cells #[.int .i64 ((a : Int) + 1), .int .i64 now, .int .i64 (-1), .slice Bo m cc] 32)).heap.size) := by
            have := hK.bel.size
            unfold Hid
            simp
            omega
          have HST : Hid (∀ (v5 : Value) (w5 : World), w5.ownsRow w.heap.size 32 4 v5 (a + 1) (flatV (closeL now al) ++ [.int .i64 ((a : Int) + 1), .int .i64 now, .int .i64 (-1), .slice Bo m cc]) → (wc.alloc (.cells #[.int .i64 ((a : Int) + 1), .int .i64 now, .int .i64 (-1), .slice Bo m cc] 32)).grownBy w5 (Value.slice Aa2 a ca2).ownBlock →
              (v5.ownBlock = (Value.slice Aa2 a ca2).ownBlock ∨ v5.ownBlock = some (wc.alloc (.cells #[.int .i64 ((a : Int) + 1), .int .i64 now, .int .i64 (-1), .slice Bo m cc] 32)).heap.size) →
              ∃ A2 c2, v5 = .slice A2 (a + 1) c2 ∧ KI w H B (a + 1) c2 A2 v' vs' ((a : Int) + 1) xl w5) := fun v5 w5 h1 h2 h3 => by
            rw [← hxl]
            exact hK.more (by rw [HVAL.out]; exact h1) h2 h3 ⟨HROW.out, by (show tab.length ≤ _); have := HTL.out; omega⟩
          have h63 : Hid (a + 1 ≤ maxLen) := by unfold Hid maxLen; omega
          have h47 : Hid ((a + 1) * 48 ≤ 140737488355328) := by unfold Hid; omega
          rw [hxl] at KE
          clear hcut hK hxl hal
          go_wp2_with (first
            | (at_builtin; refine wpList_append_own_at _ rfl _ _ 25 rfl w.heap.size 32 i0 _ 4 48 Try.underlying25 HZ.out.1 HZ.out.2.1 HZ.out.2.2.1 HZ.out.2.2.2 rfl (by decide) (.slice Aa2 a ca2) a (flatV (closeL now al)) rfl RW.out ⟨wc.heap.size, 0, none⟩ 1 1 [.int .i64 ((a : Int) + 1), .int .i64 now, .int .i64 (-1), .slice Bo m cc] rfl rfl cells4 one4 h63.out h47.out HS2.out ?_; intro v5 w5 hown hgrow _ hat; obtain ⟨A2, c2, rfl, hK5⟩ := HST.out v5 w5 hown hgrow hat; have K5 := Lib.hid hK5; clear hown hgrow hat hK5)
            | fail)
          refine (all_any _ _ w5 (Or.inr ⟨H, B, v', vs', _, rfl, K5.out.hist, by have := K5.out.few; omega, rfl⟩)).mono ?_
          rintro e w6 ⟨v6, qs, rfl, h6, s6, l6, b6⟩
          obtain ⟨n6, hn6⟩ : ∃ n6, qs.length = n6 := ⟨_, rfl⟩
          rw [hn6] at h6
          obtain ⟨A6, c6, rfl⟩ := own_form h6 (by decide) h6.1
          have R6 := Lib.hid h6
          have S6 := Lib.hid s6
          have L6 := Lib.hid l6
          have N6 := Lib.hid hn6
          have K6 := Lib.hid (K5.out.later b6)
          have hn4 : n6 ≤ 4 := by
            have h9 := congrArg List.length s6
            have h8 := K5.out.few
            simp [sayV] at h9
            omega
          obtain ⟨gz, hgz⟩ : ∃ gz, gk = gz := ⟨_, rfl⟩
          rw [hgz] at hgi
          clear h6 s6 l6 b6 hn6 K5 RW HST x1
          go_wp2_with fail
          go_loopg [9, 10, 11] (a + 2) (fun gk s9 s10 s11 wk => ∃ k : Nat, s9 = .int .i64 k ∧ gk + k = a + 2 ∧ k ≤ a + 1 ∧ Hid (∃ j, wk = w6.drewN j))
          case atStart => exact ⟨0, rfl, by omega, by omega, 0, rfl⟩
          case round =>
            obtain ⟨k, rfl, hgk, hka, HJ⟩ := hrel
            obtain ⟨gy, hgy⟩ : ∃ gy, gk = gy := ⟨_, rfl⟩
            rw [hgy] at hgk
            by_cases hkl : k < a + 1
            · have hkx : k < xl.length := by have := K6.out.alen; omega
              obtain ⟨ga, rfl, _, hca, csa, KA, hcsa⟩ := own_cell K6.out.all (by omega)
              obtain ⟨f0, f1, f2, f3⟩ := flatV_at xl k hkx
              have hx0 := ((KA.cell _).trans (hcsa _ (by omega))).trans f0
              have hx2 := ((KA.cell _).trans (hcsa _ (by omega))).trans f2
              have hx3 := ((KA.cell _).trans (hcsa _ (by omega))).trans f3
              have htx := K6.out.tabs xl[k] (List.getElem_mem hkx)
              have hmem : xl[k].says ∈ sayV xl := List.mem_map.2 ⟨_, List.getElem_mem hkx, rfl⟩
              obtain ⟨x, hx⟩ : ∃ x, xl[k] = x := ⟨_, rfl⟩
              rw [hx] at hx0 hx2 hx3 htx hmem
              have X0 := Lib.hid hx0
              have X2 := Lib.hid hx2
              have X3 := Lib.hid hx3
              have TX := Lib.hid htx
              have HANY : Hid (¬ (0 ≤ x.unt ∧ 16 ≤ wrap64 (now - x.unt)) → qs.any (hitV x) = true) := fun hs => by
                refine any_of_mem ?_
                rw [S6.out]
                refine KE.out.found hmem ?_
                rw [HLF.out]
                exact hs
              have y2 : wr.cell? ⟨ga, k * 4 + 2, none⟩ = some (.int .i64 x.unt) := by
                obtain ⟨j, hj⟩ := HJ.out
                rw [hj]
                exact hx2
              have b3 : (0 : Int) ≤ (k : Int) := by omega
              clear f0 f1 f2 f3 hx0 hx2 hx3 htx hmem KA hcsa hx hca
              by_cases hs : 0 ≤ x.unt ∧ 16 ≤ wrap64 (now - x.unt)
              · obtain ⟨hs1, hs2⟩ := hs
                have t1 : decide (0 ≤ x.unt) = true := decide_eq_true hs1
                have t2 : decide (16 ≤ wrap64 (now - x.unt)) = true := decide_eq_true hs2
                clear hs1 hs2 HANY
                go_wp2_with fail
                go_roundg (gy - 1)
                case rel => exact ⟨k + 1, by go_num, by omega, by omega, HJ.out⟩
                case measure => omega
              · have HAN := Lib.hid (HANY.out hs)
                have HNS := Lib.hid hs
                clear HANY hs
                go_upto_region 18 with fail
                go_cut [85] (fun s85 wx => s85 = .bool false ∧ Hid (∃ j, wx = w6.drewN j))
                case first =>
                  by_cases h0 : 0 ≤ x.unt
                  · have t1 : decide (0 ≤ x.unt) = true := decide_eq_true h0
                    have t2 : decide (16 ≤ wrap64 (now - x.unt)) = false := decide_eq_false (fun h => HNS.out ⟨h0, h⟩)
                    clear h0
                    go_wp2_with fail
                    go_meet
                    exact ⟨rfl, HJ.out⟩
                  · have t1 : decide (0 ≤ x.unt) = false := decide_eq_false h0
                    clear h0
                    go_wp2_with fail
                    go_meet
                    exact ⟨rfl, HJ.out⟩
                case rest =>
                obtain ⟨rfl, HJ2⟩ := hcut
                clear HJ y2 HNS
                go_wp2_with fail
                go_loopg [10, 11] (n6 + 1) (fun gk s10 s11 wm => ∃ mm : Nat, s10 = .bool ((qs.take mm).any (hitV x)) ∧ s11 = .int .i64 mm ∧ gk + mm = n6 + 1 ∧ mm ≤ n6 ∧ Hid (∃ j, wm = w6.drewN j))
                case atStart => exact ⟨0, by simp, rfl, by omega, by omega, HJ2.out⟩
                case round =>
                  obtain ⟨mm, rfl, rfl, hgm, hmn, HM2⟩ := hrel
                  clear HJ2
                  by_cases hml : mm < n6
                  · have hmq : mm < qs.length := by have := N6.out; omega
                    have hany := any_succ qs (hitV x) mm hmq
                    obtain ⟨f, hf⟩ : ∃ f, (qs.take mm).any (hitV x) = f := ⟨_, rfl⟩
                    rw [hf] at hany ⊢
                    obtain ⟨gq, hA6, _, hcq, csq, KQ, hcsq⟩ := own_cell R6.out (by omega)
                    subst hA6
                    obtain ⟨f0, f1, f2, f3⟩ := flatV_at qs mm hmq
                    obtain ⟨j, hj⟩ := HM2.out
                    have z0 : wr.cell? ⟨gq, mm * 4, none⟩ = some (.int .i64 qs[mm].num) := by rw [hj]; exact ((KQ.cell _).trans (hcsq _ (by omega))).trans f0
                    have z2 : wr.cell? ⟨gq, mm * 4 + 2, none⟩ = some (.int .i64 qs[mm].unt) := by rw [hj]; exact ((KQ.cell _).trans (hcsq _ (by omega))).trans f2
                    have z3 : wr.cell? ⟨gq, mm * 4 + 3, none⟩ = some qs[mm].sl := by rw [hj]; exact ((KQ.cell _).trans (hcsq _ (by omega))).trans f3
                    have y0 : wr.cell? ⟨ga, k * 4, none⟩ = some (.int .i64 x.num) := by rw [hj]; exact X0.out
                    have y2 : wr.cell? ⟨ga, k * 4 + 2, none⟩ = some (.int .i64 x.unt) := by rw [hj]; exact X2.out
                    have y3 : wr.cell? ⟨ga, k * 4 + 3, none⟩ = some x.sl := by rw [hj]; exact X3.out
                    have hlq := L6.out qs[mm] (List.getElem_mem hmq)
                    obtain ⟨q, hq⟩ : ∃ q, qs[mm] = q := ⟨_, rfl⟩
                    rw [hq] at z0 z2 z3 hlq hany
                    obtain ⟨qn, qf, qu, qA, qc, qt⟩ := q
                    obtain ⟨xn, xf, xu, xA, xc, xt⟩ := x
                    obtain ⟨lq, hlqq⟩ : ∃ lq, qt.length = lq := ⟨_, rfl⟩
                    obtain ⟨lx, hlx⟩ : ∃ lx, xt.length = lx := ⟨_, rfl⟩
                    unfold Ver.sl at z3 y3
                    simp only [hlqq, hlx] at z0 z2 z3 y0 y2 y3
                    have hrq : NRow w6 qA qt := hlq.1.row
                    have hrx : NRow w6 xA xt := TX.out.1.later K6.out.bel
                    have HQ : Hid (∀ i, Calls Try.prog 9 #[.slice qA lq qc, .slice xA lx xc] (wr.drewN i) fun e w' => e = .returned (.bool (decide (qt = xt))) ∧ ∃ k, w' = (wr.drewN i).drewN k) := fun i => by
                      have h8 : qt.length * 8 ≤ 140737488355328 := hlq.2
                      exact ints_any qA xA lq qc lx xc qt xt (wr.drewN i) (by rw [hj]; exact hrq) (by rw [hj]; exact hrx) hlqq hlx (by omega)
                    have HANY2 : Hid ((qs.take (mm + 1)).any (hitV ⟨xn, xf, xu, xA, xc, xt⟩) = (f || (qn == xn && (qu == xu && decide (qt = xt))))) := hany
                    have b4 : (0 : Int) ≤ (mm : Int) := Int.natCast_nonneg mm
                    have b5 : (mm : Int) < (n6 : Int) := Int.ofNat_lt.2 hml
                    have b6 : (k : Int) < (a : Int) + 1 := by omega
                    have HMJ : Hid (∀ nq, ∃ j, wr.drewN nq = w6.drewN j) := fun nq => ⟨j + nq, by rw [hj]; exact World.drewN_drewN _ _ _⟩
                    clear hany hf KQ hcsq f0 f1 f2 f3 hj hlq hq hlqq hlx hrq hrx hcq
                    go_upto_region 23 with fail
                    cases f with
                    | true =>
                      go_quiet ((go_at_call 9; exact Calls.quiet_of (HQ.out _)))
                      have HMM := Lib.hid (HMJ.out nq)
                      go_wp2_with fail
                      go_roundg (gk - 1)
                      case rel => exact ⟨mm + 1, by rw [HANY2.out]; rfl, by go_num, by omega, by omega, HMM.out⟩
                      case measure => omega
                    | false =>
                      by_cases c1 : qn = xn
                      · have t1 : (qn == xn) = true := by simpa using c1
                        by_cases c2 : qu = xu
                        · have t2 : (qu == xu) = true := by simpa using c2
                          rw [t1, t2] at HANY2
                          clear c1 c2
                          obtain ⟨dd, hdd⟩ : ∃ dd, decide (qt = xt) = dd := ⟨_, rfl⟩
                          rw [hdd] at HANY2 HQ
                          clear hdd
                          go_quiet ((go_at_call 9; exact Calls.quiet_of (HQ.out _)))
                          have HMM := Lib.hid (HMJ.out nq)
                          go_wp2_with fail
                          go_roundg (gk - 1)
                          case rel => exact ⟨mm + 1, by rw [HANY2.out]; rfl, by go_num, by omega, by omega, HMM.out⟩
                          case measure => omega
                        · have t2 : (qu == xu) = false := by simpa using c2
                          rw [t1, t2] at HANY2
                          clear c1 c2
                          go_quiet ((go_at_call 9; exact Calls.quiet_of (HQ.out _)))
                          have HMM := Lib.hid (HMJ.out nq)
                          go_wp2_with fail
                          go_roundg (gk - 1)
                          case rel => exact ⟨mm + 1, by rw [HANY2.out]; rfl, by go_num, by omega, by omega, HMM.out⟩
                          case measure => omega
                      · have t1 : (qn == xn) = false := by simpa using c1
                        rw [t1] at HANY2
                        clear c1
                        go_quiet ((go_at_call 9; exact Calls.quiet_of (HQ.out _)))
                        have HMM := Lib.hid (HMJ.out nq)
                        go_wp2_with fail
                        go_roundg (gk - 1)
                        case rel => exact ⟨mm + 1, by rw [HANY2.out]; rfl, by go_num, by omega, by omega, HMM.out⟩
                        case measure => omega
                  · obtain rfl : mm = n6 := by omega
                    have hend : (qs.take mm).any (hitV x) = true := by
                      rw [List.take_of_length_le (by rw [N6.out]; omega)]
                      exact HAN.out
                    rw [hend]
                    clear hend
                    go_wp2_with fail
                    go_roundg (gy - 1)
                    case rel => exact ⟨k + 1, by go_num, by omega, by omega, HM2.out⟩
                    case measure => omega
            · obtain rfl : k = a + 1 := by omega
              have HREL : Hid (KI w H B (a + 1) c2 A2 v' vs' (((a + 1 : Nat)) : Int) xl wr ∧ Kept (sayV xl) (sayV vs')) := by
                obtain ⟨j, hj⟩ := HJ.out
                refine ⟨?_, KE.out⟩
                rw [hj]
                exact K6.out.later (below_draws (Below.refl _ _) j)
              go_wp2_with fail
              go_roundg (gz - 1)
              case rel => exact ⟨i + 1, a + 1, c2, A2, v', vs', xl, rfl, by go_num, by omega, by omega, by omega, by omega, HREL.out⟩
              case measure => omega
        · have HP := Lib.hid (push_no (.slice Bo m cc) now HI.out.1.hist (by have := HI.out.1.few; omega) hm)
          have t1 : (mayL vs now != 0) = true := by simpa using hm
          clear hc z0 z1 hrow htl hfar hnil hm hnow
          generalize mayL vs now = M at *
          go_wp2_with fail
          refine HP.out.mono ?_; rintro e w2 ⟨rfl, b2⟩
          have HREL : Hid (KI w H B a ca Aa v vs (a : Int) al w2 ∧ Kept (sayV al) (sayV vs)) := ⟨HI.out.1.later b2, HI.out.2⟩
          clear b2
          go_wp2_with fail
          go_roundg (gk - 1)
          case rel => exact ⟨i + 1, a, ca, Aa, v, vs, al, rfl, by go_num, by omega, by omega, by omega, by omega, HREL.out⟩
          case measure => omega
      · obtain rfl : i = 40 := by omega
        go_wp2_with fail
        refine (all_any _ _ wr (Or.inr ⟨H, B, v, vs, _, rfl, HI.out.1.hist, by have := HI.out.1.few; omega, rfl⟩)).mono ?_
        rintro e w6 ⟨v6, qs, rfl, h6, s6, l6, b6⟩
        obtain ⟨n6, hn6⟩ : ∃ n6, qs.length = n6 := ⟨_, rfl⟩
        have hn4 : n6 ≤ 4 := by
          have h9 := congrArg List.length s6
          have h8 := HI.out.1.few
          simp [sayV] at h9
          omega
        rw [hn6] at h6
        obtain ⟨A6, c6, rfl⟩ := own_form h6 (by decide) h6.1
        have B6 := Lib.hid (HI.out.1.bel.trans (b6.mono HI.out.1.bel.size))
        have t9 : decide ((n6 : Int) ≤ 4) = true := by simp; omega
        clear h6 s6 l6 b6 hn6
        go_wp2_with (first
          | (go_at_call 10; refine (lives_any _).mono ?_; rintro e w7 ⟨rfl, h7⟩; have H7 := Lib.hid h7; clear h7)
          | fail)
        go_ret
        exact ⟨rfl, B6.out.trans (H7.out.mono B6.out.size)⟩
    · obtain rfl : i = len := by omega
      go_wp2_with fail
      refine (all_any _ _ wr (Or.inr ⟨H, B, v, vs, _, rfl, HI.out.1.hist, by have := HI.out.1.few; omega, rfl⟩)).mono ?_
      rintro e w6 ⟨v6, qs, rfl, h6, s6, l6, b6⟩
      obtain ⟨n6, hn6⟩ : ∃ n6, qs.length = n6 := ⟨_, rfl⟩
      have hn4 : n6 ≤ 4 := by
        have h9 := congrArg List.length s6
        have h8 := HI.out.1.few
        simp [sayV] at h9
        omega
      rw [hn6] at h6
      obtain ⟨A6, c6, rfl⟩ := own_form h6 (by decide) h6.1
      have B6 := Lib.hid (HI.out.1.bel.trans (b6.mono HI.out.1.bel.size))
      have t9 : decide ((n6 : Int) ≤ 4) = true := by simp; omega
      clear h6 s6 l6 b6 hn6
      go_wp2_with (first
        | (go_at_call 10; refine (lives_any _).mono ?_; rintro e w7 ⟨rfl, h7⟩; have H7 := Lib.hid h7; clear h7)
        | fail)
      go_ret
      exact ⟨rfl, B6.out.trans (H7.out.mono B6.out.size)⟩
end Go.Proofs.Ytblnlmhkaacciaa
