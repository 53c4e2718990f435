/-
  Contracts of the policy's functions over a policy that lies in a block of its own. No condition beyond the policy's own bounds.
-/
import Derived.Test.YtaohaoefpnoebaaMem
import Derived.Test.YtaohaoefpnoebaaPlain
import Derived.WalkSpells
import Derived.WalkLawsBesides
namespace Go.Proofs.Ytaohaoefpnoebaa
open Go.ChangeShapes Go.WideShapes Go.ChangeAt Go.RowKit
set_option linter.unusedVariables false

/-- The cells of a policy whose questions go to function F. -/
def cells (F : Nat) (p : Pol) : Array Value := #[.int .i64 p.a, .int .i64 p.s, .int .i64 p.x, .int .i64 p.y, .func (Fn.func F) #[] #[]]
def fnOf (k : Int) : Nat := if k = 1 then 12 else if k = 2 then 13 else 14

theorem below_any (l : Int) (w : World) (b F : Nat) (p : Pol) (h : Blk w b 38 (cells F p)) : Calls Try.prog 12 #[.pointer (some ⟨b, 0, none⟩), .int .i64 l] w fun e w' => e = .returned (.bool (decide (l < p.a))) ∧ w = w' := by
  have h0 : w.cell? ⟨b, 0, none⟩ = some (.int .i64 p.a) := h.cell 0
  clear h
  go_enter Try.func12, Try.ntmps12
  go_wp2
  go_ret
  exact ⟨rfl, rfl⟩
theorem always_any (l : Int) (w : World) (v : Value) : Calls Try.prog 14 #[v, .int .i64 l] w fun e w' => e = .returned (.bool true) ∧ w = w' := by
  go_enter Try.func14, Try.ntmps14
  go_wp2
  go_ret
  exact ⟨rfl, rfl⟩

/-- What a call leaves that may turn block b alone. -/
def Left (w w' : World) (b F : Nat) (p : Pol) : Prop := Blk w' b 38 (cells F p) ∧ Chg (fun k => k = b) w w'

theorem move_any (w : World) (b F : Nat) (p : Pol) (h : Blk w b 38 (cells F p)) (ha : 0 ≤ p.a ∧ p.a ≤ 100) (hs : 1 ≤ p.s ∧ p.s ≤ 100) (hy : 0 ≤ p.y ∧ p.y ≤ 100) :
    Calls Try.prog 15 #[.pointer (some ⟨b, 0, none⟩)] w fun e w' => e = .returned (.tuple #[]) ∧ Left w w' b F ⟨lim p.a p.s p.y, p.s, 0, 0⟩ := by
  obtain ⟨a, s, x, y⟩ := p
  have h0 : w.cell? ⟨b, 0, none⟩ = some (.int .i64 a) := h.cell 0
  have h1 : w.cell? ⟨b, 1, none⟩ = some (.int .i64 s) := h.cell 1
  have h2 : w.cell? ⟨b, 2, none⟩ = some (.int .i64 x) := h.cell 2
  have h3 : w.cell? ⟨b, 3, none⟩ = some (.int .i64 y) := h.cell 3
  have f0 := h.free 0
  have f2 := h.free 2
  have f3 := h.free 3
  have HB := Lib.hid h
  clear h
  simp only at ha hs hy
  have q1 : IntKind.i64.wrap (2 * y) = 2 * y := IntWalk.i64_in _ (by omega)
  have q2 : IntKind.i64.wrap (2 * y - s) = 2 * y - s := IntWalk.i64_in _ (by omega)
  by_cases c1 : s < 2 * y
  · by_cases c2 : 0 < a
    · have HL : Hid (lim a s y = a - 1) := by unfold Hid lim; rw [if_pos ⟨c1, c2⟩]
      go_enter Try.func15, Try.ntmps15
      go_wp2_with fail
      go_quiet (fail)
      clear q1 q2
      go_wp2
      go_end0
      exact ⟨rfl, by rw [HL.out]; exact (((HB.out.draws _).put 0 _ rfl).put 2 _ rfl).put 3 _ rfl, by repeat' (first | (with_reducible exact Chg.refl _ _) | (with_reducible refine Chg.draws ?_ _) | (with_reducible refine Chg.draw ?_) | (refine Chg.put ?_ (by exact Or.inl rfl) _) | (with_reducible refine Chg.more ?_ _))⟩
    · obtain rfl : a = 0 := by omega
      have HL : Hid (lim 0 s y = 0) := by unfold Hid lim; rw [if_neg (by omega), if_neg (by omega)]
      go_enter Try.func15, Try.ntmps15
      go_wp2_with fail
      go_quiet (fail)
      clear q1 q2
      go_wp2
      go_end0
      exact ⟨rfl, by rw [HL.out]; exact (((HB.out.draws _).put 0 _ rfl).put 2 _ rfl).put 3 _ rfl, by repeat' (first | (with_reducible exact Chg.refl _ _) | (with_reducible refine Chg.draws ?_ _) | (with_reducible refine Chg.draw ?_) | (refine Chg.put ?_ (by exact Or.inl rfl) _) | (with_reducible refine Chg.more ?_ _))⟩
  · by_cases c3 : 2 * y < s
    · by_cases c2 : a < 100
      · have HL : Hid (lim a s y = a + 1) := by unfold Hid lim; rw [if_neg (by omega), if_pos ⟨c3, c2⟩]
        go_enter Try.func15, Try.ntmps15
        go_wp2_with fail
        go_quiet (fail)
        clear q1 q2
        go_wp2
        go_end0
        exact ⟨rfl, by rw [HL.out]; exact (((HB.out.draws _).put 0 _ rfl).put 2 _ rfl).put 3 _ rfl, by repeat' (first | (with_reducible exact Chg.refl _ _) | (with_reducible refine Chg.draws ?_ _) | (with_reducible refine Chg.draw ?_) | (refine Chg.put ?_ (by exact Or.inl rfl) _) | (with_reducible refine Chg.more ?_ _))⟩
      · obtain rfl : a = 100 := by omega
        have HL : Hid (lim 100 s y = 100) := by unfold Hid lim; rw [if_neg (by omega), if_neg (by omega)]
        go_enter Try.func15, Try.ntmps15
        go_wp2_with fail
        go_quiet (fail)
        clear q1 q2
        go_wp2
        go_end0
        exact ⟨rfl, by rw [HL.out]; exact (((HB.out.draws _).put 0 _ rfl).put 2 _ rfl).put 3 _ rfl, by repeat' (first | (with_reducible exact Chg.refl _ _) | (with_reducible refine Chg.draws ?_ _) | (with_reducible refine Chg.draw ?_) | (refine Chg.put ?_ (by exact Or.inl rfl) _) | (with_reducible refine Chg.more ?_ _))⟩
    · have HL : Hid (lim a s y = a) := by unfold Hid lim; rw [if_neg (by omega), if_neg (by omega)]
      go_enter Try.func15, Try.ntmps15
      go_wp2_with fail
      go_quiet (fail)
      clear q1 q2
      go_wp2
      go_end0
      exact ⟨rfl, by rw [HL.out]; exact ((HB.out.draws _).put 2 _ rfl).put 3 _ rfl, by repeat' (first | (with_reducible exact Chg.refl _ _) | (with_reducible refine Chg.draws ?_ _) | (with_reducible refine Chg.draw ?_) | (refine Chg.put ?_ (by exact Or.inl rfl) _) | (with_reducible refine Chg.more ?_ _))⟩

theorem moving_any (l : Int) (w : World) (b F : Nat) (p : Pol) (h : Blk w b 38 (cells F p)) (ho : p.ok) :
    Calls Try.prog 13 #[.pointer (some ⟨b, 0, none⟩), .int .i64 l] w fun e w' => e = .returned (.bool (decide (l < p.a))) ∧ Left w w' b F (move p l) := by
  obtain ⟨a, s, x, y⟩ := p
  have h1 : w.cell? ⟨b, 1, none⟩ = some (.int .i64 s) := h.cell 1
  have h2 : w.cell? ⟨b, 2, none⟩ = some (.int .i64 x) := h.cell 2
  have h3 : w.cell? ⟨b, 3, none⟩ = some (.int .i64 y) := h.cell 3
  have f2 := h.free 2
  have f3 := h.free 3
  have HB := Lib.hid h
  clear h
  obtain ⟨o1, o2, o3, o4, o5, o6, o7, o8⟩ := ho
  simp only at o1 o2 o3 o4 o5 o6 o7 o8
  by_cases c1 : l < a
  · have d1 : decide (l < a) = true := by simpa using c1
    by_cases c2 : x + 1 < s
    · have e2 : (x + 1 == s) = false := by simp; omega
      have HL : Hid (move ⟨a, s, x, y⟩ l = ⟨a, s, x + 1, y + 1⟩) := by unfold Hid move took; rw [if_pos c2, if_pos c1]
      go_enter Try.func13, Try.ntmps13
      go_wp2_with fail
      refine (below_any _ _ _ _ _ HB.out).mono ?_; rintro e w' ⟨rfl, rfl⟩
      go_wp2_with fail
      go_quiet (fail)
      go_wp2_with fail
      go_ret
      exact ⟨ret_bool d1.symm, by rw [HL.out]; exact ((HB.out.put 2 _ rfl).put 3 _ rfl).draws _, by repeat' (first | (with_reducible exact Chg.refl _ _) | (with_reducible refine Chg.draws ?_ _) | (with_reducible refine Chg.draw ?_) | (refine Chg.put ?_ (by exact Or.inl rfl) _) | (with_reducible refine Chg.more ?_ _))⟩
    · obtain rfl : s = x + 1 := by omega
      have HL : Hid (move ⟨a, x + 1, x, y⟩ l = ⟨lim a (x + 1) (y + 1), x + 1, 0, 0⟩) := by unfold Hid move took; rw [if_neg c2, if_pos c1]
      go_enter Try.func13, Try.ntmps13
      go_wp2_with fail
      refine (below_any _ _ _ _ _ HB.out).mono ?_; rintro e w' ⟨rfl, rfl⟩
      go_wp2_with fail
      go_quiet (fail)
      go_wp2_with fail
      refine (move_any _ b F ⟨a, x + 1, x + 1, y + 1⟩ (((HB.out.put 2 _ rfl).put 3 _ rfl).draws _) ⟨o1, o2⟩ ⟨o3, o4⟩ (by simp only; omega)).mono ?_; rintro e w1 ⟨rfl, hl⟩
      go_wp2
      go_ret
      exact ⟨ret_bool d1.symm, by rw [HL.out]; exact hl.1, Chg.trans (by repeat' (first | (with_reducible exact Chg.refl _ _) | (with_reducible refine Chg.draws ?_ _) | (with_reducible refine Chg.draw ?_) | (refine Chg.put ?_ (by exact Or.inl rfl) _) | (with_reducible refine Chg.more ?_ _))) hl.2 (fun _ _ h => h)⟩
  · have d1 : decide (l < a) = false := by simpa using c1
    by_cases c2 : x + 1 < s
    · have e2 : (x + 1 == s) = false := by simp; omega
      have HL : Hid (move ⟨a, s, x, y⟩ l = ⟨a, s, x + 1, y⟩) := by unfold Hid move took; rw [if_pos c2, if_neg c1]
      go_enter Try.func13, Try.ntmps13
      go_wp2_with fail
      refine (below_any _ _ _ _ _ HB.out).mono ?_; rintro e w' ⟨rfl, rfl⟩
      go_wp2_with fail
      go_quiet (fail)
      go_wp2_with fail
      go_ret
      exact ⟨ret_bool d1.symm, by rw [HL.out]; exact (HB.out.put 2 _ rfl).draws _, by repeat' (first | (with_reducible exact Chg.refl _ _) | (with_reducible refine Chg.draws ?_ _) | (with_reducible refine Chg.draw ?_) | (refine Chg.put ?_ (by exact Or.inl rfl) _) | (with_reducible refine Chg.more ?_ _))⟩
    · obtain rfl : s = x + 1 := by omega
      have HL : Hid (move ⟨a, x + 1, x, y⟩ l = ⟨lim a (x + 1) y, x + 1, 0, 0⟩) := by unfold Hid move took; rw [if_neg c2, if_neg c1]
      go_enter Try.func13, Try.ntmps13
      go_wp2_with fail
      refine (below_any _ _ _ _ _ HB.out).mono ?_; rintro e w' ⟨rfl, rfl⟩
      go_wp2_with fail
      go_quiet (fail)
      go_wp2_with fail
      refine (move_any _ b F ⟨a, x + 1, x + 1, y⟩ ((HB.out.put 2 _ rfl).draws _) ⟨o1, o2⟩ ⟨o3, o4⟩ (by simp only; omega)).mono ?_; rintro e w1 ⟨rfl, hl⟩
      go_wp2
      go_ret
      exact ⟨ret_bool d1.symm, by rw [HL.out]; exact hl.1, Chg.trans (by repeat' (first | (with_reducible exact Chg.refl _ _) | (with_reducible refine Chg.draws ?_ _) | (with_reducible refine Chg.draw ?_) | (refine Chg.put ?_ (by exact Or.inl rfl) _) | (with_reducible refine Chg.more ?_ _))) hl.2 (fun _ _ h => h)⟩

theorem fn1 : fnOf 1 = 12 := rfl
theorem fn2 : fnOf 2 = 13 := rfl
theorem fn3 : fnOf 3 = 14 := rfl

/-- One question, whatever kind the policy is of. -/
theorem accept_any (k l : Int) (w : World) (b : Nat) (p : Pol) (hk : k = 1 ∨ k = 2 ∨ k = 3) (h : Blk w b 38 (cells (fnOf k) p)) (ho : p.ok) :
    Calls Try.prog 9 #[.pointer (some ⟨b, 0, none⟩), .int .i64 l] w fun e w' => e = .returned (.bool (says k p l)) ∧ Left w w' b (fnOf k) (step k p l) := by
  have h4 : w.cell? ⟨b, 4, none⟩ = some (.func (Fn.func (fnOf k)) #[] #[]) := h.cell 4
  have HB := Lib.hid h
  clear h
  rcases hk with rfl | rfl | rfl
  · rw [fn1] at h4 HB ⊢
    have hn : ∀ W, (binOp BinOp.neq 36 (Value.func (Fn.func 12) #[] #[]) Value.nilFunc).run Try.prog W = .ok (.bool true) W := fun _ => by kernel_rfl
    go_enter Try.func9, Try.ntmps9
    go_wp2_with (go_at_call 12; refine (below_any _ _ _ _ _ HB.out).mono ?_; rintro e w' ⟨rfl, rfl⟩)
    go_ret
    exact ⟨ret_bool (by simp [says]), HB.out, Chg.refl _ _⟩
  · rw [fn2] at h4 HB ⊢
    have hn : ∀ W, (binOp BinOp.neq 36 (Value.func (Fn.func 13) #[] #[]) Value.nilFunc).run Try.prog W = .ok (.bool true) W := fun _ => by kernel_rfl
    go_enter Try.func9, Try.ntmps9
    go_wp2_with (go_at_call 13; refine (moving_any _ _ _ _ _ HB.out ho).mono ?_; rintro e w' ⟨rfl, hl⟩; have HL := Lib.hid hl; clear hl)
    go_ret
    exact ⟨ret_bool (by simp [says]), HL.out⟩
  · rw [fn3] at h4 HB ⊢
    have hn : ∀ W, (binOp BinOp.neq 36 (Value.func (Fn.func 14) #[] #[]) Value.nilFunc).run Try.prog W = .ok (.bool true) W := fun _ => by kernel_rfl
    go_enter Try.func9, Try.ntmps9
    go_wp2_with (go_at_call 14; refine (always_any _ _ _).mono ?_; rintro e w' ⟨rfl, rfl⟩)
    go_ret
    exact ⟨ret_bool (by simp [says]), HB.out, Chg.refl _ _⟩

theorem limit_any (w : World) (b F : Nat) (p : Pol) (h : Blk w b 38 (cells F p)) : Calls Try.prog 10 #[.pointer (some ⟨b, 0, none⟩)] w fun e w' => e = .returned (.int .i64 p.a) ∧ w = w' := by
  have h0 : w.cell? ⟨b, 0, none⟩ = some (.int .i64 p.a) := h.cell 0
  clear h
  go_enter Try.func10, Try.ntmps10
  go_wp2
  go_ret
  exact ⟨rfl, rfl⟩
/-- A policy that no call made. -/
theorem limit_odd (w : World) (b : Nat) (cs : Array Value) (n : Int) (h : Blk w b 38 cs) (hc : cs[0]? = some (.int .i64 n)) : Calls Try.prog 10 #[.pointer (some ⟨b, 0, none⟩)] w fun e w' => e = .returned (.int .i64 n) ∧ w = w' := by
  have h0 : w.cell? ⟨b, 0, none⟩ = some (.int .i64 n) := (h.cell 0).trans hc
  clear h hc
  go_enter Try.func10, Try.ntmps10
  go_wp2
  go_ret
  exact ⟨rfl, rfl⟩
theorem limit_nil (w : World) : Calls Try.prog 10 #[.pointer none] w fun e w' => e = .returned (.int .i64 0) ∧ w = w' := by
  go_enter Try.func10, Try.ntmps10
  go_wp2
  go_ret
  exact ⟨rfl, rfl⟩
theorem accept_nil (l : Int) (w : World) : Calls Try.prog 9 #[.pointer none, .int .i64 l] w fun e w' => e = .returned (.bool false) ∧ w = w' := by
  go_enter Try.func9, Try.ntmps9
  go_wp2
  go_ret
  exact ⟨rfl, rfl⟩
/-- A policy that no call made. -/
theorem accept_odd (l : Int) (w : World) (b : Nat) (cs : Array Value) (h : Blk w b 38 cs) (hc : cs[4]? = some .nilFunc) : Calls Try.prog 9 #[.pointer (some ⟨b, 0, none⟩), .int .i64 l] w fun e w' => e = .returned (.bool false) ∧ w = w' := by
  have h4 : w.cell? ⟨b, 4, none⟩ = some .nilFunc := (h.cell 4).trans hc
  clear h hc
  have hn : ∀ W, (binOp BinOp.neq 36 Value.nilFunc Value.nilFunc).run Try.prog W = .ok (.bool false) W := fun _ => by kernel_rfl
  go_enter Try.func9, Try.ntmps9
  go_wp2
  go_ret
  exact ⟨rfl, rfl⟩

end Go.Proofs.Ytaohaoefpnoebaa
