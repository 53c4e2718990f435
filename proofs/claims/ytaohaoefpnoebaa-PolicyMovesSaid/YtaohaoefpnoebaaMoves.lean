/-
  The walk of PolicyMoves. No condition beyond what a slice that came in is.
-/
import Derived.Test.YtaohaoefpnoebaaLives
namespace Go.Proofs.Ytaohaoefpnoebaa
open Go.ChangeShapes Go.WideShapes Go.ChangeAt Go.RowKit
set_option linter.unusedVariables false

theorem accept2 (l : Int) (w : World) (b : Nat) (p q : Pol) (h : Blk w b 38 (cells 13 p)) (ho : p.ok) (hq : move p l = q) :
    Calls Try.prog 9 #[.pointer (some ⟨b, 0, none⟩), .int .i64 l] w fun e w' => e = .returned (.bool (decide (l < p.a))) ∧ Left w w' b 13 q := by
  subst hq
  exact (accept_any 2 l w b p (by decide) h ho).mono fun _ _ ⟨h1, h2⟩ => ⟨h1, h2⟩
theorem move_law (p : Pol) (l : Int) (ho : p.ok) : (move p l).s = p.s ∧ p.a - 1 ≤ (move p l).a ∧ (move p l).a ≤ p.a + 1 ∧ ((move p l).a ≠ p.a → p.x + 1 = p.s) ∧
    ((p.x + 1 < p.s ∧ (move p l).x = p.x + 1) ∨ (p.x + 1 = p.s ∧ (move p l).x = 0)) := by
  obtain ⟨h1, h2, h3, h4, h5, h6, h7, h8⟩ := ho
  unfold move
  by_cases c : p.x + 1 < p.s
  · rw [if_pos c]; refine ⟨rfl, by simp only; omega, by simp only; omega, fun h => absurd rfl h, Or.inl ⟨c, rfl⟩⟩
  · rw [if_neg c]
    refine ⟨rfl, ?_, ?_, fun _ => by omega, Or.inr ⟨by omega, rfl⟩⟩ <;> (simp only [lim]; (repeat' split) <;> omega)


set_option maxRecDepth 100000 in
set_option maxHeartbeats 800000 in
theorem moves_1 (n s : Int) (a : Option Addr) (len cap : Nat) (zs : List Int) (w : World) (hr : IsRow .i64 w a len cap zs) (hs : s ≤ 1) (hd : clamp 1 100 s = 1) :
    Calls Try.prog 4 #[.int .i64 n, .int .i64 s, .slice a len cap] w fun e w' => e = .returned (.bool true) ∧ Below w.heap.size w w' := by
  obtain ⟨hlc, hcm, hzl⟩ := hr.len_le
  unfold maxLen at hcm
  have HR := Lib.hid hr
  have HD := Lib.hid hd
  have HF := Lib.hid (fresh_ok n s)
  clear hr hd
  go_enter Try.func4, Try.ntmps4
  go_wp2_with fail
  refine (new_any 2 n s _ (by decide)).mono ?_; rintro e w1 ⟨rfl, hw1⟩
  have B1 : Blk w1 w.heap.size 38 (cells 13 (fresh n s)) := by rw [hw1]; exact Blk.new _ _ _
  have C1 : Below w.heap.size w w1 := by rw [hw1]; exact (Below.refl _ _).alloc (Nat.le_refl _) _
  have HB1 := Lib.hid B1
  have HC1 := Lib.hid C1
  clear B1 C1 hw1
  go_wp2_with fail
  go_loopw [9] (fun i wr => ∃ (k : Nat) (p : Pol), i = .int .i64 k ∧ k ≤ len ∧ k ≤ 300 ∧ Hid (Blk wr w.heap.size 38 (cells 13 p) ∧ p.ok ∧ p.s = 1 ∧ p.x = (k : Int) % 1 ∧ Below w.heap.size w wr))
    (fun i _ => 300 - (intOf i).toNat)
  case atStart => exact ⟨0, fresh n s, rfl, by omega, by omega, HB1.out, HF.out, HD.out, by simp [fresh], HC1.out⟩
  case round =>
    obtain ⟨k, p, rfl, hk, hk3, HI⟩ := hrel
    by_cases hlt : k < len
    · by_cases h60 : k < 300
      · obtain ⟨b, o, rfl, hb, hcell⟩ := HR.out.at_ (by omega)
        have hcx : wr.cell? ⟨b, o + k, none⟩ = some (.int .i64 (zs.getD k 0)) := (HI.out.2.2.2.2.cell (p := ⟨b, o + k, none⟩) hb).trans (hcell k (by omega))
        clear hcell
        obtain ⟨z, hz⟩ : ∃ z, z = zs.getD k 0 := ⟨_, rfl⟩
        rw [← hz] at hcx
        clear hz
        obtain ⟨q, hq⟩ : ∃ q, move p z = q := ⟨_, rfl⟩
        have hml := move_law p z HI.out.2.1
        rw [hq] at hml
        have hqo := move_ok HI.out.2.1 z
        rw [hq] at hqo
        have HQ := Lib.hid hq
        clear hq
        obtain ⟨m1, m2, m3, m4, m5⟩ := hml
        have p1 := HI.out.2.1.1
        have p2 := HI.out.2.1.2.1
        have p3 := HI.out.2.2.1
        have p4 := HI.out.2.2.2.1
        obtain ⟨q1, q2, _⟩ := id hqo
        have E1 : ((q.a : Int) != p.a) = false ∨ (((k : Int) + 1) % 1 != 0) = false := by
          by_cases e : q.a = p.a
          · left; simp [e]
          · right; have := m4 e; rw [bne_eq_false_iff_eq]
            rw [p3] at this
            rw [p4] at this
            rw [← Int.emod_add_emod, this]; simp
        have HX : Hid (q.x = ((k + 1 : Nat) : Int) % 1) := by
          unfold Hid
          rcases m5 with ⟨h1, h2⟩ | ⟨h1, h2⟩ <;> rw [h2]
          · rw [p4]; rw [p3, p4] at h1
            rw [Int.natCast_add, Int.natCast_one, ← Int.emod_add_emod, Int.emod_eq_of_lt (by have := Int.emod_nonneg (k : Int) (show (1 : Int) ≠ 0 by omega); omega) h1]
          · rw [p3, p4] at h1
            rw [Int.natCast_add, Int.natCast_one, ← Int.emod_add_emod, h1]; simp
        have HO := Lib.hid hqo
        have HS : Hid (q.s = 1) := m1.trans p3
        clear hqo m1 m4 m5 p3 p4
        rcases E1 with E1 | E1
        all_goals
          go_wp2_with fail
          refine (limit_any _ _ _ _ HI.out.1).mono ?_; rintro e w' ⟨rfl, rfl⟩
          go_wp2_with fail
          refine (accept2 _ _ _ _ _ HI.out.1 HI.out.2.1 HQ.out).mono ?_; rintro e w2 ⟨rfl, hl⟩
          have HL := Lib.hid hl
          clear hl
          have hsz := HI.out.2.2.2.2.size
          have HB2 : Hid (Below w.heap.size w w2) := below_chg HI.out.2.2.2.2 HL.out.2 hsz (fun k hk => by omega)
          have hcy : w2.cell? ⟨b, o + k, none⟩ = some (.int .i64 z) := (HL.out.2.cell (p := ⟨b, o + k, none⟩) (by simp only; omega) (by simp only; omega)).trans hcx
          go_wp2_with fail
          refine (limit_any _ _ _ _ HL.out.1).mono ?_; rintro e w' ⟨rfl, rfl⟩
          go_wp2
          all_goals
            go_roundw
            case rel => exact ⟨k + 1, q, by go_num, by omega, by omega, HL.out.1, HO.out, HS.out, HX.out, HB2.out⟩
            case measure => simp [intOf]; omega
      · go_wp2_with (go_at_call 11; refine (lives_any _).mono ?_; rintro e w' ⟨rfl, hl⟩; have HL := Lib.hid hl; clear hl)
        go_ret
        exact ⟨rfl, HI.out.2.2.2.2.trans (HL.out.mono HI.out.2.2.2.2.size)⟩
    · go_wp2_with (go_at_call 11; refine (lives_any _).mono ?_; rintro e w' ⟨rfl, hl⟩; have HL := Lib.hid hl; clear hl)
      go_ret
      exact ⟨rfl, HI.out.2.2.2.2.trans (HL.out.mono HI.out.2.2.2.2.size)⟩

set_option maxRecDepth 100000 in
set_option maxHeartbeats 800000 in
theorem moves_s (n s : Int) (a : Option Addr) (len cap : Nat) (zs : List Int) (w : World) (hr : IsRow .i64 w a len cap zs) (hs : 1 < s ∧ s < 100) (hd : clamp 1 100 s = s) :
    Calls Try.prog 4 #[.int .i64 n, .int .i64 s, .slice a len cap] w fun e w' => e = .returned (.bool true) ∧ Below w.heap.size w w' := by
  obtain ⟨hlc, hcm, hzl⟩ := hr.len_le
  unfold maxLen at hcm
  have HR := Lib.hid hr
  have HD := Lib.hid hd
  have HF := Lib.hid (fresh_ok n s)
  clear hr hd
  go_enter Try.func4, Try.ntmps4
  go_wp2_with fail
  refine (new_any 2 n s _ (by decide)).mono ?_; rintro e w1 ⟨rfl, hw1⟩
  have B1 : Blk w1 w.heap.size 38 (cells 13 (fresh n s)) := by rw [hw1]; exact Blk.new _ _ _
  have C1 : Below w.heap.size w w1 := by rw [hw1]; exact (Below.refl _ _).alloc (Nat.le_refl _) _
  have HB1 := Lib.hid B1
  have HC1 := Lib.hid C1
  clear B1 C1 hw1
  go_wp2_with fail
  go_loopw [9] (fun i wr => ∃ (k : Nat) (p : Pol), i = .int .i64 k ∧ k ≤ len ∧ k ≤ 300 ∧ Hid (Blk wr w.heap.size 38 (cells 13 p) ∧ p.ok ∧ p.s = s ∧ p.x = (k : Int) % s ∧ Below w.heap.size w wr))
    (fun i _ => 300 - (intOf i).toNat)
  case atStart => exact ⟨0, fresh n s, rfl, by omega, by omega, HB1.out, HF.out, HD.out, by simp [fresh], HC1.out⟩
  case round =>
    obtain ⟨k, p, rfl, hk, hk3, HI⟩ := hrel
    by_cases hlt : k < len
    · by_cases h60 : k < 300
      · obtain ⟨b, o, rfl, hb, hcell⟩ := HR.out.at_ (by omega)
        have hcx : wr.cell? ⟨b, o + k, none⟩ = some (.int .i64 (zs.getD k 0)) := (HI.out.2.2.2.2.cell (p := ⟨b, o + k, none⟩) hb).trans (hcell k (by omega))
        clear hcell
        obtain ⟨z, hz⟩ : ∃ z, z = zs.getD k 0 := ⟨_, rfl⟩
        rw [← hz] at hcx
        clear hz
        obtain ⟨q, hq⟩ : ∃ q, move p z = q := ⟨_, rfl⟩
        have hml := move_law p z HI.out.2.1
        rw [hq] at hml
        have hqo := move_ok HI.out.2.1 z
        rw [hq] at hqo
        have HQ := Lib.hid hq
        clear hq
        obtain ⟨m1, m2, m3, m4, m5⟩ := hml
        have p1 := HI.out.2.1.1
        have p2 := HI.out.2.1.2.1
        have p3 := HI.out.2.2.1
        have p4 := HI.out.2.2.2.1
        obtain ⟨q1, q2, _⟩ := id hqo
        have E1 : ((q.a : Int) != p.a) = false ∨ (((k : Int) + 1) % s != 0) = false := by
          by_cases e : q.a = p.a
          · left; simp [e]
          · right; have := m4 e; rw [bne_eq_false_iff_eq]
            rw [p3] at this
            rw [p4] at this
            rw [← Int.emod_add_emod, this]; simp
        have HX : Hid (q.x = ((k + 1 : Nat) : Int) % s) := by
          unfold Hid
          rcases m5 with ⟨h1, h2⟩ | ⟨h1, h2⟩ <;> rw [h2]
          · rw [p4]; rw [p3, p4] at h1
            rw [Int.natCast_add, Int.natCast_one, ← Int.emod_add_emod, Int.emod_eq_of_lt (by have := Int.emod_nonneg (k : Int) (show (s : Int) ≠ 0 by omega); omega) h1]
          · rw [p3, p4] at h1
            rw [Int.natCast_add, Int.natCast_one, ← Int.emod_add_emod, h1]; simp
        have HO := Lib.hid hqo
        have HS : Hid (q.s = s) := m1.trans p3
        clear hqo m1 m4 m5 p3 p4
        rcases E1 with E1 | E1
        all_goals
          go_wp2_with fail
          refine (limit_any _ _ _ _ HI.out.1).mono ?_; rintro e w' ⟨rfl, rfl⟩
          go_wp2_with fail
          refine (accept2 _ _ _ _ _ HI.out.1 HI.out.2.1 HQ.out).mono ?_; rintro e w2 ⟨rfl, hl⟩
          have HL := Lib.hid hl
          clear hl
          have hsz := HI.out.2.2.2.2.size
          have HB2 : Hid (Below w.heap.size w w2) := below_chg HI.out.2.2.2.2 HL.out.2 hsz (fun k hk => by omega)
          have hcy : w2.cell? ⟨b, o + k, none⟩ = some (.int .i64 z) := (HL.out.2.cell (p := ⟨b, o + k, none⟩) (by simp only; omega) (by simp only; omega)).trans hcx
          go_wp2_with fail
          refine (limit_any _ _ _ _ HL.out.1).mono ?_; rintro e w' ⟨rfl, rfl⟩
          go_wp2
          all_goals
            go_roundw
            case rel => exact ⟨k + 1, q, by go_num, by omega, by omega, HL.out.1, HO.out, HS.out, HX.out, HB2.out⟩
            case measure => simp [intOf]; omega
      · go_wp2_with (go_at_call 11; refine (lives_any _).mono ?_; rintro e w' ⟨rfl, hl⟩; have HL := Lib.hid hl; clear hl)
        go_ret
        exact ⟨rfl, HI.out.2.2.2.2.trans (HL.out.mono HI.out.2.2.2.2.size)⟩
    · go_wp2_with (go_at_call 11; refine (lives_any _).mono ?_; rintro e w' ⟨rfl, hl⟩; have HL := Lib.hid hl; clear hl)
      go_ret
      exact ⟨rfl, HI.out.2.2.2.2.trans (HL.out.mono HI.out.2.2.2.2.size)⟩

set_option maxRecDepth 100000 in
set_option maxHeartbeats 800000 in
theorem moves_100 (n s : Int) (a : Option Addr) (len cap : Nat) (zs : List Int) (w : World) (hr : IsRow .i64 w a len cap zs) (hs : 100 ≤ s) (hd : clamp 1 100 s = 100) :
    Calls Try.prog 4 #[.int .i64 n, .int .i64 s, .slice a len cap] w fun e w' => e = .returned (.bool true) ∧ Below w.heap.size w w' := by
  obtain ⟨hlc, hcm, hzl⟩ := hr.len_le
  unfold maxLen at hcm
  have HR := Lib.hid hr
  have HD := Lib.hid hd
  have HF := Lib.hid (fresh_ok n s)
  clear hr hd
  go_enter Try.func4, Try.ntmps4
  go_wp2_with fail
  refine (new_any 2 n s _ (by decide)).mono ?_; rintro e w1 ⟨rfl, hw1⟩
  have B1 : Blk w1 w.heap.size 38 (cells 13 (fresh n s)) := by rw [hw1]; exact Blk.new _ _ _
  have C1 : Below w.heap.size w w1 := by rw [hw1]; exact (Below.refl _ _).alloc (Nat.le_refl _) _
  have HB1 := Lib.hid B1
  have HC1 := Lib.hid C1
  clear B1 C1 hw1
  go_wp2_with fail
  go_loopw [9] (fun i wr => ∃ (k : Nat) (p : Pol), i = .int .i64 k ∧ k ≤ len ∧ k ≤ 300 ∧ Hid (Blk wr w.heap.size 38 (cells 13 p) ∧ p.ok ∧ p.s = 100 ∧ p.x = (k : Int) % 100 ∧ Below w.heap.size w wr))
    (fun i _ => 300 - (intOf i).toNat)
  case atStart => exact ⟨0, fresh n s, rfl, by omega, by omega, HB1.out, HF.out, HD.out, by simp [fresh], HC1.out⟩
  case round =>
    obtain ⟨k, p, rfl, hk, hk3, HI⟩ := hrel
    by_cases hlt : k < len
    · by_cases h60 : k < 300
      · obtain ⟨b, o, rfl, hb, hcell⟩ := HR.out.at_ (by omega)
        have hcx : wr.cell? ⟨b, o + k, none⟩ = some (.int .i64 (zs.getD k 0)) := (HI.out.2.2.2.2.cell (p := ⟨b, o + k, none⟩) hb).trans (hcell k (by omega))
        clear hcell
        obtain ⟨z, hz⟩ : ∃ z, z = zs.getD k 0 := ⟨_, rfl⟩
        rw [← hz] at hcx
        clear hz
        obtain ⟨q, hq⟩ : ∃ q, move p z = q := ⟨_, rfl⟩
        have hml := move_law p z HI.out.2.1
        rw [hq] at hml
        have hqo := move_ok HI.out.2.1 z
        rw [hq] at hqo
        have HQ := Lib.hid hq
        clear hq
        obtain ⟨m1, m2, m3, m4, m5⟩ := hml
        have p1 := HI.out.2.1.1
        have p2 := HI.out.2.1.2.1
        have p3 := HI.out.2.2.1
        have p4 := HI.out.2.2.2.1
        obtain ⟨q1, q2, _⟩ := id hqo
        have E1 : ((q.a : Int) != p.a) = false ∨ (((k : Int) + 1) % 100 != 0) = false := by
          by_cases e : q.a = p.a
          · left; simp [e]
          · right; have := m4 e; rw [bne_eq_false_iff_eq]
            rw [p3] at this
            rw [p4] at this
            rw [← Int.emod_add_emod, this]; simp
        have HX : Hid (q.x = ((k + 1 : Nat) : Int) % 100) := by
          unfold Hid
          rcases m5 with ⟨h1, h2⟩ | ⟨h1, h2⟩ <;> rw [h2]
          · rw [p4]; rw [p3, p4] at h1
            rw [Int.natCast_add, Int.natCast_one, ← Int.emod_add_emod, Int.emod_eq_of_lt (by have := Int.emod_nonneg (k : Int) (show (100 : Int) ≠ 0 by omega); omega) h1]
          · rw [p3, p4] at h1
            rw [Int.natCast_add, Int.natCast_one, ← Int.emod_add_emod, h1]; simp
        have HO := Lib.hid hqo
        have HS : Hid (q.s = 100) := m1.trans p3
        clear hqo m1 m4 m5 p3 p4
        rcases E1 with E1 | E1
        all_goals
          go_wp2_with fail
          refine (limit_any _ _ _ _ HI.out.1).mono ?_; rintro e w' ⟨rfl, rfl⟩
          go_wp2_with fail
          refine (accept2 _ _ _ _ _ HI.out.1 HI.out.2.1 HQ.out).mono ?_; rintro e w2 ⟨rfl, hl⟩
          have HL := Lib.hid hl
          clear hl
          have hsz := HI.out.2.2.2.2.size
          have HB2 : Hid (Below w.heap.size w w2) := below_chg HI.out.2.2.2.2 HL.out.2 hsz (fun k hk => by omega)
          have hcy : w2.cell? ⟨b, o + k, none⟩ = some (.int .i64 z) := (HL.out.2.cell (p := ⟨b, o + k, none⟩) (by simp only; omega) (by simp only; omega)).trans hcx
          go_wp2_with fail
          refine (limit_any _ _ _ _ HL.out.1).mono ?_; rintro e w' ⟨rfl, rfl⟩
          go_wp2
          all_goals
            go_roundw
            case rel => exact ⟨k + 1, q, by go_num, by omega, by omega, HL.out.1, HO.out, HS.out, HX.out, HB2.out⟩
            case measure => simp [intOf]; omega
      · go_wp2_with (go_at_call 11; refine (lives_any _).mono ?_; rintro e w' ⟨rfl, hl⟩; have HL := Lib.hid hl; clear hl)
        go_ret
        exact ⟨rfl, HI.out.2.2.2.2.trans (HL.out.mono HI.out.2.2.2.2.size)⟩
    · go_wp2_with (go_at_call 11; refine (lives_any _).mono ?_; rintro e w' ⟨rfl, hl⟩; have HL := Lib.hid hl; clear hl)
      go_ret
      exact ⟨rfl, HI.out.2.2.2.2.trans (HL.out.mono HI.out.2.2.2.2.size)⟩

theorem policyMoves.walk (n s : Int) (a : Option Addr) (len cap : Nat) (zs : List Int) (w : World) (_ : (Lit.int .i64 n).wf = true) (_ : (Lit.int .i64 s).wf = true) (hr : IsRow .i64 w a len cap zs) :
    Calls Try.prog 4 #[.int .i64 n, .int .i64 s, .slice a len cap] w fun e w' => e = .returned (.bool true) ∧ Below w.heap.size w w' := by
  have hd : (s ≤ 1 ∧ clamp 1 100 s = 1) ∨ ((1 < s ∧ s < 100) ∧ clamp 1 100 s = s) ∨ (100 ≤ s ∧ clamp 1 100 s = 100) := by
    unfold clamp; (repeat' split) <;> omega
  rcases hd with ⟨h, hd⟩ | ⟨h, hd⟩ | ⟨h, hd⟩
  · exact moves_1 n s a len cap zs w hr h hd
  · exact moves_s n s a len cap zs w hr h hd
  · exact moves_100 n s a len cap zs w hr h hd
end Go.Proofs.Ytaohaoefpnoebaa
