/-
  The walk of PolicyPlays where there is no policy of that kind. No condition beyond what a slice that came in is.
-/
import Derived.Test.YtaohaoefpnoebaaPlays
import Derived.Test.YtaohaoefpnoebaaArgs
namespace Go.Proofs.Ytaohaoefpnoebaa
open Go.ChangeShapes Go.WideShapes Go.ChangeAt Go.RowKit
set_option linter.unusedVariables false

theorem new_none_lit (k l s : Int) (w : World) (hk : ¬ (k = 1 ∨ k = 2 ∨ k = 3)) :
    Calls Try.prog 6 #[.int .i64 k, .int .i64 l, .int .i64 s] w fun e w' => e = .returned (.pointer none) ∧ ∃ o, w' = w.alloc o := by
  have k1 : ¬ k = 1 := fun h => hk (Or.inl h)
  have k2 : ¬ k = 2 := fun h => hk (Or.inr (Or.inl h))
  have k3 : ¬ k = 3 := fun h => hk (Or.inr (Or.inr h))
  clear hk
  rcases clamp_way 0 100 l (by decide) with ⟨hl, hc⟩ | ⟨⟨hl0, hl1⟩, hc⟩ | ⟨hl, hc⟩ <;>
    rcases clamp_way 1 100 s (by decide) with ⟨hs, hd⟩ | ⟨⟨hs0, hs1⟩, hd⟩ | ⟨hs, hd⟩
  all_goals
    clear hc hd
    go_enter Try.func6, Try.ntmps6
    go_wp2
    go_ret
    exact ⟨rfl, _, rfl⟩
theorem acc_0 (l : Int) (w : World) :
    Calls Try.prog 8 #[.agg #[.int .i64 0, .int .i64 0, .int .i64 0, .int .i64 0, .int .i64 0], .int .i64 l] w fun e w' => e = .returned (.tuple #[.agg #[.int .i64 0, .int .i64 0, .int .i64 0, .int .i64 0, .int .i64 0], .bool false]) ∧ Below w.heap.size w w' := by
  go_enter Try.func8, Try.ntmps8
  go_wp2
  go_region
  go_wp2
  go_returns
  refine ⟨by simp [go_sem], ?_⟩
  repeat' (first | (with_reducible exact Below.refl _ _) | (with_reducible refine Below.drew ?_) | (refine Below.alloc ?_ (by simp) _) | (refine Below.setCell ?_ (by simp) _))

set_option maxRecDepth 100000 in
set_option maxHeartbeats 1600000 in
theorem plays_none (k l s : Int) (a : Option Addr) (len cap : Nat) (zs : List Int) (w : World) (hr : IsRow .i64 w a len cap zs) (hk : ¬ (k = 1 ∨ k = 2 ∨ k = 3)):
    Calls Try.prog 3 #[.agg #[.int .i64 k, .int .i64 l, .int .i64 s], .slice a len cap] w fun e w' => e = .returned (.bool true) ∧ Below w.heap.size w w' := by
  go_enter Try.func3, Try.ntmps3
  go_upto_region 1 with fail
  go_cut [5, 6] (fun s5 s6 wx => ∃ c : Nat, s5 = .pointer none ∧ s6 = .pointer (some ⟨c, 0, none⟩) ∧ Hid (w.heap.size ≤ c ∧ Blk wx c 27 #[.int .i64 0, .int .i64 0, .int .i64 0, .int .i64 0, .int .i64 0] ∧ Below w.heap.size w wx))
  case first =>
    go_region_held3 (fun w' => w'.cell? ⟨w.heap.size, 0, none⟩ = some (.int .i64 k) ∧ w'.cell? ⟨w.heap.size, 1, none⟩ = some (.int .i64 l) ∧ w'.cell? ⟨w.heap.size, 2, none⟩ = some (.int .i64 s)) (go_keep)
      (first
        | (go_at_call 6; refine (new_none_lit _ _ _ _ hk).mono ?_; rintro e w' ⟨rfl, o, rfl⟩)
        | (go_at_call 7; refine (refNew_none _ _ _ _ hk).mono ?_; rintro e w' ⟨rfl, rfl⟩))
    all_goals
      go_wp2_with fail
      go_meet
      refine ⟨_, rfl, rfl, ?_, ?_, ?_⟩
      · omega
      · repeat' (first | (with_reducible refine Blk.draw ?_) | (with_reducible refine Blk.newAt _ _ _ _ ?_; simp; done) | (refine Blk.more ?_ _))
      · repeat' (first | (with_reducible exact Below.refl _ _) | (with_reducible refine Below.drew ?_) | (with_reducible refine Below.alloc ?_ ?_ _) | (with_reducible refine Below.setCell ?_ ?_ _) | omega | (simp; done) | (simp; omega))
  case rest =>
    obtain ⟨c, rfl, rfl, HI⟩ := hcut
    have c0 : wc.cell? ⟨c, 0, none⟩ = some (.int .i64 0) := HI.out.2.1.cell 0
    have HR := Lib.hid hr
    obtain ⟨hlc, hcm, hzl⟩ := hr.len_le
    unfold maxLen at hcm
    clear hr hk
    go_wp2_with fail
    go_loopw [7] (fun i wr => ∃ (n : Nat), i = .int .i64 n ∧ n ≤ len ∧ n ≤ 300 ∧ Hid (w.heap.size ≤ c ∧ Blk wr c 27 #[.int .i64 0, .int .i64 0, .int .i64 0, .int .i64 0, .int .i64 0] ∧ Below w.heap.size w wr))
      (fun i _ => 300 - (intOf i).toNat)
    case atStart => exact ⟨0, rfl, by omega, by omega, HI.out.1, HI.out.2.1, HI.out.2.2⟩
    case round =>
      clear HI c0
      obtain ⟨n, rfl, hk, hk3, HI⟩ := hrel
      by_cases hlt : n < len
      · by_cases h60 : n < 300
        · obtain ⟨g, o, rfl, hb, hcell⟩ := HR.out.at_ (by omega)
          have hcx : wr.cell? ⟨g, o + n, none⟩ = some (.int .i64 (zs.getD n 0)) := (HI.out.2.2.cell (p := ⟨g, o + n, none⟩) hb).trans (hcell n (by omega))
          clear hcell
          obtain ⟨z, hz⟩ : ∃ z, z = zs.getD n 0 := ⟨_, rfl⟩
          rw [← hz] at hcx
          clear hz
          obtain ⟨c0, c1, c2, c3, c4, _, _, _, _, _⟩ := five HI.out.2.1
          have cb : c < wr.heap.size := HI.out.2.1.lt
          have gb : g < wr.heap.size := Nat.lt_of_lt_of_le hb HI.out.2.2.size
          have e1 : ¬ c = wr.heap.size := by omega
          have e2 : ¬ wr.heap.size = c := by omega
          have e3 : ¬ g = wr.heap.size := by omega
          have e4 : ¬ wr.heap.size = g := by omega
          go_upto_region 7 with fail
          go_cut [8, 9] (fun s8 s9 wx => ∃ e : Nat, s8 = .pointer (some ⟨e, 0, none⟩) ∧ s9 = .bool false ∧ Hid (wr.heap.size ≤ e ∧ Blk wx e 27 #[.int .i64 0, .int .i64 0, .int .i64 0, .int .i64 0, .int .i64 0] ∧ Below wr.heap.size wr wx))
          case first =>
            go_region_held3 (fun w' => w'.cell? ⟨c, 0, none⟩ = some (.int .i64 0) ∧ w'.cell? ⟨c, 1, none⟩ = some (.int .i64 0) ∧ w'.cell? ⟨c, 2, none⟩ = some (.int .i64 0) ∧ w'.cell? ⟨c, 3, none⟩ = some (.int .i64 0) ∧ w'.cell? ⟨c, 4, none⟩ = some (.int .i64 0) ∧ w'.cell? ⟨g, o + n, none⟩ = some (.int .i64 z)) (go_keep)
              (first | (go_at_call 8; refine (acc_0 _ _).mono ?_; rintro e w' ⟨rfl, hB⟩; have cz := later1 hB cb (by simp); have gz := later1 hB gb (by simp); obtain ⟨d0, d1, d2, d3, d4, d5⟩ := held6 c g (o + n) 0 ⟨0, 0, 0, 0⟩ z hB (by simp [*]); have nb := Blk.below (Blk.draw (Blk.new wr 27 #[.int .i64 0, .int .i64 0, .int .i64 0, .int .i64 0, .int .i64 0])) hB (by simp); obtain ⟨n0, n1, n2, n3, n4, f0, f1, f2, f3, f4⟩ := five nb; have NB := Lib.hid nb; have HB := Lib.hid hB; clear hB nb) | (go_at_call 8; refine (acc_0 _ _).mono ?_; rintro e w' ⟨rfl, hB⟩; have cz := later1 hB cb (by simp); have gz := later1 hB gb (by simp); obtain ⟨d0, d1, d2, d3, d4, d5⟩ := held6 c g (o + n) 0 ⟨0, 0, 0, 0⟩ z hB (by simp [*]); have HB := Lib.hid hB; clear hB))
            all_goals
              go_wp2_with fail
              go_meet
            · refine ⟨_, rfl, rfl, ?_, ?_, ?_⟩
              · exact HB.out.size
              · exact Blk.new _ _ _
              · exact ((Below.refl wr.heap.size wr).drew.trans HB.out).alloc HB.out.size _
            · refine ⟨_, rfl, rfl, Nat.le_refl _, ?_, ?_⟩
              · exact ((((NB.out.put 0 _ rfl).put 1 _ rfl).put 2 _ rfl).put 3 _ rfl).put 4 _ rfl
              · have h := (((Below.refl wr.heap.size wr).alloc (Nat.le_refl _) (.cells #[.int .i64 0, .int .i64 0, .int .i64 0, .int .i64 0, .int .i64 0] 27)).drew.trans (HB.out.mono (by simp)))
                exact ((((h.setCell (Nat.le_refl _) _).setCell (Nat.le_refl _) _).setCell (Nat.le_refl _) _).setCell (Nat.le_refl _) _).setCell (Nat.le_refl _) _
          case rest =>
            obtain ⟨e, rfl, rfl, HE⟩ := hcut
            obtain ⟨n0, n1, n2, n3, n4, _, _, _, _, _⟩ := five HE.out.2.1
            have BC := HI.out.2.1.below HE.out.2.2 cb
            obtain ⟨m0, m1, m2, m3, m4, f0, f1, f2, f3, f4⟩ := five BC
            have hcy := (HE.out.2.2.cell (p := ⟨g, o + n, none⟩) gb).trans hcx
            have HBC := Lib.hid BC
            have hgc : g ≠ c := by have := HI.out.1; omega
            have hgc' := hgc.symm
            clear BC c0 c1 c2 c3 c4 hcx
            go_upto_region 8 with fail
            go_cut [] (fun wy => Hid (Blk wy c 27 #[.int .i64 0, .int .i64 0, .int .i64 0, .int .i64 0, .int .i64 0] ∧ Chg (fun j => j = c) wc wy))
            case first =>
              go_wp2_with fail
              go_meet
              exact ⟨((((HBC.out.put 0 _ rfl).put 1 _ rfl).put 2 _ rfl).put 3 _ rfl).put 4 _ rfl, by repeat' (first | (with_reducible exact Chg.refl _ _) | (refine Chg.put ?_ (by exact Or.inl rfl) _))⟩
            case rest =>
              clear n0 n1 n2 n3 n4 m0 m1 m2 m3 m4 f0 f1 f2 f3 f4
              have x1 : wc.cell? ⟨c, 1, none⟩ = some (.int .i64 0) := hcut.out.1.cell 1
              have x2 : wc.cell? ⟨g, o + n, none⟩ = some (.int .i64 z) := (hcut.out.2.cell (p := ⟨g, o + n, none⟩) (later1 HE.out.2.2 gb (Nat.le_refl _)) hgc).trans hcy
              clear hcy
              go_wp2_with fail
              go_region_held3 (fun w' => w'.cell? ⟨c, 1, none⟩ = some (.int .i64 0) ∧ w'.cell? ⟨g, o + n, none⟩ = some (.int .i64 z)) (go_keep)
                (first
                  | (go_at_call 9; refine (accept_nil _ _).mono ?_; rintro e w' ⟨rfl, rfl⟩)
                  | (go_at_call 10; refine (limit_nil _).mono ?_; rintro e w' ⟨rfl, rfl⟩))
              go_wp2
              go_roundw
              case rel =>
                refine ⟨n + 1, by go_num, by omega, by omega, HI.out.1, hcut.out.1, ?_⟩
                have s1 := HI.out.2.2.size
                have s2 := HE.out.2.2.size
                have s3 := hcut.out.2.size
                have s5 := HI.out.1
                have b1 := HI.out.2.2.trans (HE.out.2.2.mono s1)
                exact (below_chg b1 hcut.out.2 (by omega) (fun j hj => by omega)).drew
              case measure => simp [intOf]; omega
        · go_wp2_with (go_at_call 11; refine (lives_any _).mono ?_; rintro e w' ⟨rfl, hl⟩; have HL := Lib.hid hl; clear hl)
          go_ret
          exact ⟨rfl, HI.out.2.2.trans (HL.out.mono HI.out.2.2.size)⟩
      · go_wp2_with (go_at_call 11; refine (lives_any _).mono ?_; rintro e w' ⟨rfl, hl⟩; have HL := Lib.hid hl; clear hl)
        go_ret
        exact ⟨rfl, HI.out.2.2.trans (HL.out.mono HI.out.2.2.size)⟩

theorem policyPlays.walk (v : Value) (ns : List Int) (a : Option Addr) (len cap : Nat) (zs : List Int) (w : World) (hv : ∃ cs, v = .agg cs ∧ ns.length = 3 ∧ Ints .i64 cs.toList ns) (hr : IsRow .i64 w a len cap zs) :
    Calls Try.prog 3 #[v, .slice a len cap] w fun e w' => e = .returned (.bool true) ∧ Below w.heap.size w w' := by
  obtain ⟨cs, rfl, hl, hc, _⟩ := hv
  obtain ⟨cs⟩ := cs
  match ns, hl with
  | [k, l, s], _ =>
    simp only [List.map_cons, List.map_nil] at hc
    subst hc
    by_cases hk : k = 1 ∨ k = 2 ∨ k = 3
    · exact plays_any k l s a len cap zs w hr hk
    · exact plays_none k l s a len cap zs w hr hk
end Go.Proofs.Ytaohaoefpnoebaa
