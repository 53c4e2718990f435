/-
  Some rounds; a word taken in; the document's round; the words at first. No condition.
-/
import Derived.Test.YtgpdenhgbipopaaSteps
import Derived.Deep.LoopGhost
namespace Go.Proofs.Ytgpdenhgbipopaa
open Go.ChangeShapes Go.WideShapes Go.ChangeAt Go.RowKit
set_option linter.unusedVariables false

theorem Left.next {w w1 w2 : World} {g : Nat} {s s' : V} (h : Left w w1 g s) (h' : Left w1 w2 g s') : Left w w2 g s' := ⟨h'.1, h.2.trans h'.2 (fun _ _ h => h)⟩
theorem Left.same {w : World} {g : Nat} {s : V} (h : Blk w g 49 (vs s)) : Left w w g s := ⟨h, Chg.refl _ _⟩
def rnd (s : V) : V := t2 (h21 (h03 (h23 (t0 (h01 s)))))
def itr : Nat → V → V
  | 0, s => s
  | n + 1, s => rnd (itr n s)

theorem rounds_any (g n : Nat) (s : V) (w : World) (h : Blk w g 49 (vs s)) (hn : n ≤ 100) :
    Calls Try.prog 28 #[.pointer (some ⟨g, 0, none⟩), .int .i64 n] w fun e w' => e = .returned (.tuple #[]) ∧ Left w w' g (itr n s) := by
  have HB := Lib.hid h
  clear h
  go_enter Try.func28, Try.ntmps28
  go_wp2_with fail
  go_loopw [5] (fun i wr => ∃ k : Nat, i = .int .i64 k ∧ k ≤ n ∧ Hid (Left w wr g (itr k s))) (fun i _ => n - (intOf i).toNat)
  case atStart => exact ⟨0, rfl, by omega, Left.same HB.out⟩
  case round =>
    obtain ⟨k, rfl, hk, H0⟩ := hrel
    by_cases hlt : k < n
    · have e0 : True := trivial
      go_wp2_with fail
      refine (half01 g _ _ H0.out.1).mono ?_; rintro e w1 ⟨rfl, hl⟩
      have H1 := Lib.hid (H0.out.next hl)
      clear hl
      go_wp2_with fail
      refine (turn0 g _ _ H1.out.1).mono ?_; rintro e w2 ⟨rfl, hl⟩
      have H2 := Lib.hid (H1.out.next hl)
      clear hl
      go_wp2_with fail
      refine (half23 g _ _ H2.out.1).mono ?_; rintro e w3 ⟨rfl, hl⟩
      have H3 := Lib.hid (H2.out.next hl)
      clear hl
      go_wp2_with fail
      refine (half03 g _ _ H3.out.1).mono ?_; rintro e w4 ⟨rfl, hl⟩
      have H4 := Lib.hid (H3.out.next hl)
      clear hl
      go_wp2_with fail
      refine (half21 g _ _ H4.out.1).mono ?_; rintro e w5 ⟨rfl, hl⟩
      have H5 := Lib.hid (H4.out.next hl)
      clear hl
      go_wp2_with fail
      refine (turn2 g _ _ H5.out.1).mono ?_; rintro e w6 ⟨rfl, hl⟩
      have H6 := Lib.hid (H5.out.next hl)
      clear hl
      go_wp2_with fail
      go_roundw
      case rel => exact ⟨k + 1, by go_num, by omega, H6.out⟩
      case measure => simp [intOf]; omega
    · obtain rfl : k = n := by omega
      go_wp2_with fail
      go_end0
      exact ⟨rfl, H0.out⟩

theorem rounds2 (g : Nat) (s : V) (w : World) (h : Blk w g 49 (vs s)) : Calls Try.prog 28 #[.pointer (some ⟨g, 0, none⟩), .int .i64 2] w fun e w' => e = .returned (.tuple #[]) ∧ Left w w' g (itr 2 s) := rounds_any g 2 s w h (by omega)
theorem rounds4 (g : Nat) (s : V) (w : World) (h : Blk w g 49 (vs s)) : Calls Try.prog 28 #[.pointer (some ⟨g, 0, none⟩), .int .i64 4] w fun e w' => e = .returned (.tuple #[]) ∧ Left w w' g (itr 4 s) := rounds_any g 4 s w h (by omega)
def xd (s : V) (x : Int) : V := ⟨s.a, s.b, s.c, xr s.d x⟩
def xa (s : V) (x : Int) : V := ⟨xr s.a x, s.b, s.c, s.d⟩
def tk (s : V) (x : Int) : V := xa (itr 2 (xd s x)) x
theorem take_any (g : Nat) (s : V) (x : Int) (w : World) (h : Blk w g 49 (vs s)) :
    Calls Try.prog 26 #[.pointer (some ⟨g, 0, none⟩), .int .u64 x] w fun e w' => e = .returned (.tuple #[]) ∧ Left w w' g (tk s x) := by
  have c0 : w.cell? ⟨g, 3, none⟩ = some (.int .u64 s.d) := h.cell 3
  have f0 := h.free 3
  have HB := Lib.hid h
  clear h
  go_enter Try.func26, Try.ntmps26
  go_wp2_with fail
  go_region
  have H1 : Hid (Left w (w.setCell ⟨g, 3, none⟩ (.int .u64 (xr s.d x))).drew g (xd s x)) := ⟨HB.out.put 3 _ rfl, by repeat' (first | (with_reducible exact Chg.refl _ _) | (with_reducible refine Chg.draws ?_ _) | (with_reducible refine Chg.draw ?_) | (refine Chg.put ?_ (by exact Or.inl rfl) _) | (with_reducible refine Chg.more ?_ _))⟩
  clear c0 f0
  go_wp2_with fail
  refine (rounds2 g (xd s x) _ H1.out.1).mono ?_; rintro e w2 ⟨rfl, hl⟩
  have H2 := Lib.hid (H1.out.next hl)
  have c0 : w2.cell? ⟨g, 0, none⟩ = some (.int .u64 (itr 2 (xd s x)).a) := hl.1.cell 0
  have f0 := hl.1.free 0
  clear hl
  go_wp2_with fail
  go_region
  go_wp2_with fail
  go_end0
  exact ⟨rfl, H2.out.1.put 0 _ rfl, H2.out.2.trans (R := fun k => k = g) (by repeat' (first | (with_reducible exact Chg.refl _ _) | (with_reducible refine Chg.draws ?_ _) | (with_reducible refine Chg.draw ?_) | (refine Chg.put ?_ (by exact Or.inl rfl) _) | (with_reducible refine Chg.more ?_ _))) (fun _ _ h => h)⟩

theorem results_tmp4 {fn : Func} {t u v x : Tmp} (h : fn.results = #[.tmp t, .tmp u, .tmp v, .tmp x]) (tmps : Array Value) (P : Program) (w : World) :
    (results fn tmps).run P w = .ok (.tuple #[tmps.getD t undef, tmps.getD u undef, tmps.getD v undef, tmps.getD x undef]) w := by simp [results, h]
theorem ref_round (s : V) (w : World) :
    Calls Try.prog 30 #[.int .u64 s.a, .int .u64 s.b, .int .u64 s.c, .int .u64 s.d] w fun e w' => e = .returned (.tuple #[.int .u64 (rnd s).a, .int .u64 (rnd s).b, .int .u64 (rnd s).c, .int .u64 (rnd s).d]) ∧ w = w' := by
  go_enter Try.func30, Try.ntmps30
  go_wp2_with fail
  refine (left13 _ _).mono ?_; rintro e w' ⟨rfl, rfl⟩
  go_wp2_with fail
  refine (left32 _ _).mono ?_; rintro e w' ⟨rfl, rfl⟩
  go_wp2_with fail
  refine (left16 _ _).mono ?_; rintro e w' ⟨rfl, rfl⟩
  go_wp2_with fail
  refine (left21 _ _).mono ?_; rintro e w' ⟨rfl, rfl⟩
  go_wp2_with fail
  refine (left17 _ _).mono ?_; rintro e w' ⟨rfl, rfl⟩
  go_wp2_with fail
  refine (left32 _ _).mono ?_; rintro e w' ⟨rfl, rfl⟩
  go_wp2_with fail
  refine bodyPost_ret (results_tmp4 rfl _ _ _) rfl ?_
  exact ⟨rfl, rfl⟩

/-- The words at first. -/
def bgn (x y : Int) : V := ⟨xr x 8317987319222330741, xr y 7237128888997146477, xr x 7816392313619706465, xr y 8387220255154660723⟩
theorem begin_any (x y : Int) (w : World) : Calls Try.prog 25 #[.agg #[.int .u64 x, .int .u64 y]] w fun e w' => e = .returned (.agg (vs (bgn x y))) ∧ Below w.heap.size w w' := by
  go_enter Try.func25, Try.ntmps25
  go_wp2
  go_returns
  refine ⟨by simp [go_sem, vs, bgn, xr], ?_⟩
  repeat' (first | (with_reducible exact Below.refl _ _) | (with_reducible refine Below.drew ?_) | (refine Below.alloc ?_ (by simp) _) | (refine Below.setCell ?_ (by simp) _))
def md (u n : Int) : Int := if n < 1 then 0 else u % n
theorem mod_any (u n : Int) (w : World) (hu : 0 ≤ u ∧ u ≤ 18446744073709551615) (hn : n ≤ 9223372036854775807) : Calls Try.prog 16 #[.int .u64 u, .int .i64 n] w fun e w' => e = .returned (.int .i64 (md u n)) ∧ w = w' := by
  unfold md
  by_cases h : n < 1
  · rw [if_pos h]
    go_enter Try.func16, Try.ntmps16
    go_wp2
    go_ret
    exact ⟨rfl, rfl⟩
  · rw [if_neg h]
    have e1 : IntKind.u64.wrap n = n := IntWalk.u64_in _ (by omega)
    have e2 : ¬ n = 0 := by omega
    have e3 : 0 ≤ u % n := Int.emod_nonneg _ e2
    have e4 : u % n < n := Int.emod_lt_of_pos _ (by omega)
    go_enter Try.func16, Try.ntmps16
    go_wp2
    go_ret
    exact ⟨rfl, rfl⟩
end Go.Proofs.Ytgpdenhgbipopaa
