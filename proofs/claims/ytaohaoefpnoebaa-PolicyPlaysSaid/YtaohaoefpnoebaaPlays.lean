/-
  The walk of PolicyPlays. No condition beyond what a slice that came in is.
-/
import Derived.Test.YtaohaoefpnoebaaAccs
import Derived.Test.YtaohaoefpnoebaaLives
import Derived.Deep.RegionHeld3
import Derived.Deep.DeepCutAuto
namespace Go.Proofs.Ytaohaoefpnoebaa
open Go.ChangeShapes Go.WideShapes Go.ChangeAt Go.RowKit
set_option linter.unusedVariables false

theorem Blk.newAt (w : World) (t : TypeId) (cs : Array Value) (g : Nat) (h : g = w.heap.size) : Blk (w.alloc (.cells cs t)) g t cs := by subst h; exact Blk.new w t cs
theorem refNew_lit (k l s : Int) (w : World) (p : Pol) (hp : fresh l s = p) (hk : k = 1 ∨ k = 2 ∨ k = 3) :
    Calls Try.prog 7 #[.int .i64 k, .int .i64 l, .int .i64 s] w fun e w' => e = .returned (.agg #[.int .i64 k, .int .i64 p.a, .int .i64 p.s, .int .i64 p.x, .int .i64 p.y]) ∧ w' = w.alloc (.cells #[.int .i64 k, .int .i64 p.a, .int .i64 p.s, .int .i64 p.x, .int .i64 p.y] 27) := by
  subst hp
  exact refNew_any k l s w hk
theorem new_lit (k l s : Int) (w : World) (p : Pol) (hp : fresh l s = p) (hk : k = 1 ∨ k = 2 ∨ k = 3) :
    Calls Try.prog 6 #[.int .i64 k, .int .i64 l, .int .i64 s] w fun e w' => e = .returned (.pointer (some ⟨w.heap.size, 0, none⟩)) ∧ w' = w.alloc (.cells (cells (fnOf k) p) 38) := by
  subst hp
  exact new_any k l s w hk

theorem refAccept_lit (k l : Int) (w : World) (p q : Pol) (hq : step k p l = q) (hk : k = 1 ∨ k = 2 ∨ k = 3) (ho : p.ok) :
    Calls Try.prog 8 #[.agg #[.int .i64 k, .int .i64 p.a, .int .i64 p.s, .int .i64 p.x, .int .i64 p.y], .int .i64 l] w fun e w' => e = .returned (.tuple #[.agg #[.int .i64 k, .int .i64 q.a, .int .i64 q.s, .int .i64 q.x, .int .i64 q.y], .bool (says k p l)]) ∧ Below w.heap.size w w' := by
  subst hq
  exact refAccept_any k l w p hk ho
theorem later1 {wr W v : World} {c : Nat} (hb : Below W.heap.size W v) (hc : c < wr.heap.size) (hW : wr.heap.size ≤ W.heap.size) : c < v.heap.size := by have := hb.size; omega
theorem five {v : World} {e : Nat} {x0 x1 x2 x3 x4 : Value} (h : Blk v e 27 #[x0, x1, x2, x3, x4]) : v.cell? ⟨e, 0, none⟩ = some x0 ∧ v.cell? ⟨e, 1, none⟩ = some x1 ∧ v.cell? ⟨e, 2, none⟩ = some x2 ∧ v.cell? ⟨e, 3, none⟩ = some x3 ∧ v.cell? ⟨e, 4, none⟩ = some x4 ∧
    v.frozen? ⟨e, 0, none⟩ = false ∧ v.frozen? ⟨e, 1, none⟩ = false ∧ v.frozen? ⟨e, 2, none⟩ = false ∧ v.frozen? ⟨e, 3, none⟩ = false ∧ v.frozen? ⟨e, 4, none⟩ = false :=
  ⟨h.cell 0, h.cell 1, h.cell 2, h.cell 3, h.cell 4, h.free 0, h.free 1, h.free 2, h.free 3, h.free 4⟩
theorem accept_lit (k l : Int) (w : World) (b : Nat) (p q : Pol) (hq : step k p l = q) (hk : k = 1 ∨ k = 2 ∨ k = 3) (h : Blk w b 38 (cells (fnOf k) p)) (ho : p.ok) :
    Calls Try.prog 9 #[.pointer (some ⟨b, 0, none⟩), .int .i64 l] w fun e w' => e = .returned (.bool (says k p l)) ∧ Left w w' b (fnOf k) q := by
  subst hq
  exact accept_any k l w b p hk h ho
theorem held6 {W v : World} (c g m : Nat) (k : Int) (p : Pol) (z : Int) (hb : Below W.heap.size W v) (h : W.cell? ⟨c, 0, none⟩ = some (.int .i64 k) ∧ W.cell? ⟨c, 1, none⟩ = some (.int .i64 p.a) ∧ W.cell? ⟨c, 2, none⟩ = some (.int .i64 p.s) ∧ W.cell? ⟨c, 3, none⟩ = some (.int .i64 p.x) ∧ W.cell? ⟨c, 4, none⟩ = some (.int .i64 p.y) ∧ W.cell? ⟨g, m, none⟩ = some (.int .i64 z)) : v.cell? ⟨c, 0, none⟩ = some (.int .i64 k) ∧ v.cell? ⟨c, 1, none⟩ = some (.int .i64 p.a) ∧ v.cell? ⟨c, 2, none⟩ = some (.int .i64 p.s) ∧ v.cell? ⟨c, 3, none⟩ = some (.int .i64 p.x) ∧ v.cell? ⟨c, 4, none⟩ = some (.int .i64 p.y) ∧ v.cell? ⟨g, m, none⟩ = some (.int .i64 z) := by
  have f : ∀ {a : Addr} {x : Value}, W.cell? a = some x → v.cell? a = some x := fun {a x} e => (hb.cell (block_lt_of_cell e)).trans e
  exact ⟨f h.1, f h.2.1, f h.2.2.1, f h.2.2.2.1, f h.2.2.2.2.1, f h.2.2.2.2.2⟩

set_option maxRecDepth 100000 in
set_option maxHeartbeats 1600000 in
theorem plays_any (k l s : Int) (a : Option Addr) (len cap : Nat) (zs : List Int) (w : World) (hr : IsRow .i64 w a len cap zs) (hk : k = 1 ∨ k = 2 ∨ k = 3):
    Calls Try.prog 3 #[.agg #[.int .i64 k, .int .i64 l, .int .i64 s], .slice a len cap] w fun e w' => e = .returned (.bool true) ∧ Below w.heap.size w w' := by
  obtain ⟨p, hp⟩ : ∃ p, fresh l s = p := ⟨_, rfl⟩
  have HO : Hid p.ok := by rw [← hp]; exact fresh_ok l s
  have HP := Lib.hid hp
  clear hp
  go_enter Try.func3, Try.ntmps3
  go_upto_region 1 with fail
  go_cut [5, 6] (fun s5 s6 wx => ∃ b c : Nat, s5 = .pointer (some ⟨b, 0, none⟩) ∧ s6 = .pointer (some ⟨c, 0, none⟩) ∧ Hid (w.heap.size ≤ b ∧ w.heap.size ≤ c ∧ Blk wx b 38 (cells (fnOf k) p) ∧ Blk wx c 27 (rcells k p) ∧ Below w.heap.size w wx))
  case first =>
    go_region_held3 (fun w' => w'.cell? ⟨w.heap.size, 0, none⟩ = some (.int .i64 k) ∧ w'.cell? ⟨w.heap.size, 1, none⟩ = some (.int .i64 l) ∧ w'.cell? ⟨w.heap.size, 2, none⟩ = some (.int .i64 s)) (go_keep)
      (first
        | (go_at_call 6; refine (new_lit _ _ _ _ _ HP.out hk).mono ?_; rintro e w' ⟨rfl, rfl⟩)
        | (go_at_call 7; refine (refNew_lit _ _ _ _ _ HP.out hk).mono ?_; rintro e w' ⟨rfl, rfl⟩))
    all_goals
      go_wp2_with fail
      go_meet
      refine ⟨_, _, rfl, rfl, ?_, ?_, ?_, ?_, ?_⟩
      · omega
      · omega
      · repeat' (first | (with_reducible refine Blk.draw ?_) | (with_reducible refine Blk.newAt _ _ _ _ ?_; simp; done) | (refine Blk.more ?_ _))
      · unfold rcells; repeat' (first | (with_reducible refine Blk.draw ?_) | (with_reducible refine Blk.newAt _ _ _ _ ?_; simp; done) | (refine Blk.more ?_ _))
      · repeat' (first | (with_reducible exact Below.refl _ _) | (with_reducible refine Below.drew ?_) | (with_reducible refine Below.alloc ?_ ?_ _) | (with_reducible refine Below.setCell ?_ ?_ _) | omega | (simp; done) | (simp; omega))
  case rest =>
    obtain ⟨b, c, rfl, rfl, HI⟩ := hcut
    have HK : Hid (k = 1 ∨ k = 2 ∨ k = 3) := hk
    have k0 : (k == 0) = false := by simp; omega
    have c0 : wc.cell? ⟨c, 0, none⟩ = some (.int .i64 k) := HI.out.2.2.2.1.cell 0
    have HR := Lib.hid hr
    obtain ⟨hlc, hcm, hzl⟩ := hr.len_le
    unfold maxLen at hcm
    clear hr hk
    go_wp2_with fail
    go_loopw [7] (fun i wr => ∃ (n : Nat) (p : Pol), i = .int .i64 n ∧ n ≤ len ∧ n ≤ 300 ∧ Hid (w.heap.size ≤ b ∧ w.heap.size ≤ c ∧ Blk wr b 38 (cells (fnOf k) p) ∧ Blk wr c 27 (rcells k p) ∧ p.ok ∧ Below w.heap.size w wr))
      (fun i _ => 300 - (intOf i).toNat)
    case atStart => exact ⟨0, p, rfl, by omega, by omega, HI.out.1, HI.out.2.1, HI.out.2.2.1, HI.out.2.2.2.1, HO.out, HI.out.2.2.2.2⟩
    case round =>
      clear HI c0
      obtain ⟨n, p, rfl, hk, hk3, HI⟩ := hrel
      by_cases hlt : n < len
      · by_cases h60 : n < 300
        · obtain ⟨g, o, rfl, hb, hcell⟩ := HR.out.at_ (by omega)
          have hcx : wr.cell? ⟨g, o + n, none⟩ = some (.int .i64 (zs.getD n 0)) := (HI.out.2.2.2.2.2.cell (p := ⟨g, o + n, none⟩) hb).trans (hcell n (by omega))
          clear hcell
          obtain ⟨z, hz⟩ : ∃ z, z = zs.getD n 0 := ⟨_, rfl⟩
          rw [← hz] at hcx
          clear hz
          have c0 : wr.cell? ⟨c, 0, none⟩ = some (.int .i64 k) := HI.out.2.2.2.1.cell 0
          have c1 : wr.cell? ⟨c, 1, none⟩ = some (.int .i64 p.a) := HI.out.2.2.2.1.cell 1
          have c2 : wr.cell? ⟨c, 2, none⟩ = some (.int .i64 p.s) := HI.out.2.2.2.1.cell 2
          have c3 : wr.cell? ⟨c, 3, none⟩ = some (.int .i64 p.x) := HI.out.2.2.2.1.cell 3
          have c4 : wr.cell? ⟨c, 4, none⟩ = some (.int .i64 p.y) := HI.out.2.2.2.1.cell 4
          obtain ⟨q, hq⟩ : ∃ q, step k p z = q := ⟨_, rfl⟩
          have HQ := Lib.hid hq
          clear hq
          have cb : c < wr.heap.size := HI.out.2.2.2.1.lt
          have gb : g < wr.heap.size := Nat.lt_of_lt_of_le hb HI.out.2.2.2.2.2.size
          have e1 : ¬ c = wr.heap.size := by omega
          have e2 : ¬ wr.heap.size = c := by omega
          have e3 : ¬ g = wr.heap.size := by omega
          have e4 : ¬ wr.heap.size = g := by omega
          go_upto_region 7 with fail
          go_cut [8, 9] (fun s8 s9 wx => ∃ e : Nat, s8 = .pointer (some ⟨e, 0, none⟩) ∧ s9 = .bool (says k p z) ∧ Hid (wr.heap.size ≤ e ∧ Blk wx e 27 (rcells k q) ∧ Below wr.heap.size wr wx))
          case first =>
            go_region_held3 (fun w' => w'.cell? ⟨c, 0, none⟩ = some (.int .i64 k) ∧ w'.cell? ⟨c, 1, none⟩ = some (.int .i64 p.a) ∧ w'.cell? ⟨c, 2, none⟩ = some (.int .i64 p.s) ∧ w'.cell? ⟨c, 3, none⟩ = some (.int .i64 p.x) ∧ w'.cell? ⟨c, 4, none⟩ = some (.int .i64 p.y) ∧ w'.cell? ⟨g, o + n, none⟩ = some (.int .i64 z)) (go_keep)
              (first | (go_at_call 8; refine (refAccept_lit _ _ _ _ _ HQ.out HK.out HI.out.2.2.2.2.1).mono ?_; rintro e w' ⟨rfl, hB⟩; have cz := later1 hB cb (by simp); have gz := later1 hB gb (by simp); obtain ⟨d0, d1, d2, d3, d4, d5⟩ := held6 c g (o + n) k p z hB (by simp [*]); have nb := Blk.below (Blk.draw (Blk.new wr 27 #[.int .i64 0, .int .i64 0, .int .i64 0, .int .i64 0, .int .i64 0])) hB (by simp); obtain ⟨n0, n1, n2, n3, n4, f0, f1, f2, f3, f4⟩ := five nb; have NB := Lib.hid nb; have HB := Lib.hid hB; clear hB nb) | (go_at_call 8; refine (refAccept_lit _ _ _ _ _ HQ.out HK.out HI.out.2.2.2.2.1).mono ?_; rintro e w' ⟨rfl, hB⟩; have cz := later1 hB cb (by simp); have gz := later1 hB gb (by simp); obtain ⟨d0, d1, d2, d3, d4, d5⟩ := held6 c g (o + n) k p z hB (by simp [*]); have HB := Lib.hid hB; clear hB))
            all_goals
              go_wp2_with fail
              go_meet
            · refine ⟨_, rfl, rfl, ?_, ?_, ?_⟩
              · exact HB.out.size
              · exact Blk.new _ _ _
              · exact ((Below.refl wr.heap.size wr).drew.trans HB.out).alloc HB.out.size _
            · refine ⟨_, rfl, rfl, Nat.le_refl _, ?_, ?_⟩
              · exact ((((NB.out.put 0 _ rfl).put 1 _ rfl).put 2 _ rfl).put 3 _ rfl).put 4 _ rfl
              · have h := (((Below.refl wr.heap.size wr).alloc (Nat.le_refl _) (.cells #[.int .i64 0, .int .i64 0, .int .i64 0, .int .i64 0, .int .i64 0] 27)).drew.trans (HB.out.mono (by simp)))
                exact ((((h.setCell (Nat.le_refl _) _).setCell (Nat.le_refl _) _).setCell (Nat.le_refl _) _).setCell (Nat.le_refl _) _).setCell (Nat.le_refl _) _
          case rest =>
            obtain ⟨e, rfl, rfl, HE⟩ := hcut
            obtain ⟨n0, n1, n2, n3, n4, _, _, _, _, _⟩ := five HE.out.2.1
            have BC := HI.out.2.2.2.1.below HE.out.2.2 cb
            have BB := HI.out.2.2.1.below HE.out.2.2 HI.out.2.2.1.lt
            obtain ⟨m0, m1, m2, m3, m4, f0, f1, f2, f3, f4⟩ := five BC
            have hcy := (HE.out.2.2.cell (p := ⟨g, o + n, none⟩) gb).trans hcx
            have HBC := Lib.hid BC
            have HBB := Lib.hid BB
            have hbc : b ≠ c := Blk.differ HI.out.2.2.1 HI.out.2.2.2.1 (by decide)
            have hbc' := hbc.symm
            have hgc : g ≠ c := by have := HI.out.2.1; omega
            have hgc' := hgc.symm
            have hgb : g ≠ b := by have := HI.out.1; omega
            have hgb' := hgb.symm
            clear BC BB c0 c1 c2 c3 c4 hcx
            go_upto_region 8 with fail
            go_cut [] (fun wy => Hid (Blk wy c 27 (rcells k q) ∧ Chg (fun j => j = c) wc wy))
            case first =>
              go_wp2_with fail
              go_meet
              exact ⟨((((HBC.out.put 0 _ rfl).put 1 _ rfl).put 2 _ rfl).put 3 _ rfl).put 4 _ rfl, by repeat' (first | (with_reducible exact Chg.refl _ _) | (refine Chg.put ?_ (by exact Or.inl rfl) _))⟩
            case rest =>
              clear n0 n1 n2 n3 n4 m0 m1 m2 m3 m4 f0 f1 f2 f3 f4
              have HB2 : Hid (Blk wc b 38 (cells (fnOf k) p)) := HBB.out.kept hcut.out.2 hbc
              have x1 : wc.cell? ⟨c, 1, none⟩ = some (.int .i64 q.a) := hcut.out.1.cell 1
              have x2 : wc.cell? ⟨g, o + n, none⟩ = some (.int .i64 z) := (hcut.out.2.cell (p := ⟨g, o + n, none⟩) (later1 HE.out.2.2 gb (Nat.le_refl _)) hgc).trans hcy
              have sb : (says k p z != says k p z) = false := by simp
              have cb2 : c < wc.heap.size := hcut.out.1.lt
              have gb2 : g < wc.heap.size := Nat.lt_of_lt_of_le (later1 HE.out.2.2 gb (Nat.le_refl _)) hcut.out.2.size
              clear hcy
              go_wp2_with fail
              go_region_held3 (fun w' => w'.cell? ⟨c, 1, none⟩ = some (.int .i64 q.a) ∧ w'.cell? ⟨g, o + n, none⟩ = some (.int .i64 z)) (go_keep)
                (first
                  | (go_at_call 9; refine (accept_lit k z _ b p q HQ.out HK.out (Blk.draw HB2.out) HI.out.2.2.2.2.1).mono ?_; rintro e w' ⟨rfl, hL⟩; have y1 := (hL.2.cell (p := ⟨c, 1, none⟩) cb2 hbc').trans x1; have y2 := (hL.2.cell (p := ⟨g, o + n, none⟩) gb2 hgb).trans x2; have HL := Lib.hid hL; clear hL)
                  | (go_at_call 10; refine (limit_any _ _ _ _ HL.out.1).mono ?_; rintro e w' ⟨rfl, rfl⟩))
              go_wp2
              go_roundw
              case rel =>
                refine ⟨n + 1, q, by go_num, by omega, by omega, HI.out.1, HI.out.2.1, HL.out.1, hcut.out.1.draw.kept HL.out.2 hbc', HQ.out ▸ step_ok k HI.out.2.2.2.2.1 z, ?_⟩
                have s1 := HI.out.2.2.2.2.2.size
                have s2 := HE.out.2.2.size
                have s3 := hcut.out.2.size
                have s4 := HI.out.1
                have s5 := HI.out.2.1
                have b1 := HI.out.2.2.2.2.2.trans (HE.out.2.2.mono s1)
                have b2 := below_chg b1 hcut.out.2 (by omega) (fun j hj => by omega)
                exact below_chg b2.drew HL.out.2 (by simp only [World.size_drew]; omega) (fun j hj => by omega)
              case measure => simp [intOf]; omega
        · go_wp2_with (go_at_call 11; refine (lives_any _).mono ?_; rintro e w' ⟨rfl, hl⟩; have HL := Lib.hid hl; clear hl)
          go_ret
          exact ⟨rfl, HI.out.2.2.2.2.2.trans (HL.out.mono HI.out.2.2.2.2.2.size)⟩
      · go_wp2_with (go_at_call 11; refine (lives_any _).mono ?_; rintro e w' ⟨rfl, hl⟩; have HL := Lib.hid hl; clear hl)
        go_ret
        exact ⟨rfl, HI.out.2.2.2.2.2.trans (HL.out.mono HI.out.2.2.2.2.2.size)⟩
end Go.Proofs.Ytaohaoefpnoebaa
