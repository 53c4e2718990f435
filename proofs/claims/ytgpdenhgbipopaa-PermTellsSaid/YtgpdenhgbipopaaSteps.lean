/-
  The rounds of the hash: what each of the program's small steps does to the four words. No condition.
-/
import Derived.Test.YtgpdenhgbipopaaMem
import Derived.WalkSpells
import Derived.WalkLawsBesides
import Derived.RegionTactic
import Derived.Deep.RegionWith
import Derived.BigRegion
namespace Go.Proofs.Ytgpdenhgbipopaa
open Go.ChangeShapes Go.WideShapes Go.ChangeAt Go.RowKit
set_option linter.unusedVariables false

def ad (a b : Int) : Int := IntKind.u64.wrap (a + b)
def xr (a b : Int) : Int := bits .xor .u64 a b
def rl (x : Int) (k : Nat) : Int := bits .or .u64 (IntKind.u64.wrap (x * 2 ^ k)) (x / 2 ^ (64 - k))
/-- The four words. -/
structure V where
  a : Int
  b : Int
  c : Int
  d : Int
def vs (s : V) : Array Value := #[.int .u64 s.a, .int .u64 s.b, .int .u64 s.c, .int .u64 s.d]
/-- What a step leaves: the words at block g, and that alone has turned. -/
def Left (w w' : World) (g : Nat) (s : V) : Prop := Blk w' g 49 (vs s) ∧ Chg (fun k => k = g) w w'
theorem rot13 (x : Int) (w : World) : Calls Try.prog 35 #[.int .u64 x, .int .i64 13] w fun e w' => e = .returned (.int .u64 (rl x 13)) ∧ w = w' := by
  have e : bits BinOp.and IntKind.u64 13 63 = 13 := by decide
  go_enter Try.func35, Try.ntmps35
  go_wp2
  go_ret
  exact ⟨ret_int rfl, rfl⟩
theorem left13 (x : Int) (w : World) : Calls Try.prog 34 #[.int .u64 x, .int .u64 13] w fun e w' => e = .returned (.int .u64 (rl x 13)) ∧ w = w' := by
  go_enter Try.func34, Try.ntmps34
  go_wp2
  go_ret
  exact ⟨ret_int rfl, rfl⟩
theorem rot16 (x : Int) (w : World) : Calls Try.prog 35 #[.int .u64 x, .int .i64 16] w fun e w' => e = .returned (.int .u64 (rl x 16)) ∧ w = w' := by
  have e : bits BinOp.and IntKind.u64 16 63 = 16 := by decide
  go_enter Try.func35, Try.ntmps35
  go_wp2
  go_ret
  exact ⟨ret_int rfl, rfl⟩
theorem left16 (x : Int) (w : World) : Calls Try.prog 34 #[.int .u64 x, .int .u64 16] w fun e w' => e = .returned (.int .u64 (rl x 16)) ∧ w = w' := by
  go_enter Try.func34, Try.ntmps34
  go_wp2
  go_ret
  exact ⟨ret_int rfl, rfl⟩
theorem rot17 (x : Int) (w : World) : Calls Try.prog 35 #[.int .u64 x, .int .i64 17] w fun e w' => e = .returned (.int .u64 (rl x 17)) ∧ w = w' := by
  have e : bits BinOp.and IntKind.u64 17 63 = 17 := by decide
  go_enter Try.func35, Try.ntmps35
  go_wp2
  go_ret
  exact ⟨ret_int rfl, rfl⟩
theorem left17 (x : Int) (w : World) : Calls Try.prog 34 #[.int .u64 x, .int .u64 17] w fun e w' => e = .returned (.int .u64 (rl x 17)) ∧ w = w' := by
  go_enter Try.func34, Try.ntmps34
  go_wp2
  go_ret
  exact ⟨ret_int rfl, rfl⟩
theorem rot21 (x : Int) (w : World) : Calls Try.prog 35 #[.int .u64 x, .int .i64 21] w fun e w' => e = .returned (.int .u64 (rl x 21)) ∧ w = w' := by
  have e : bits BinOp.and IntKind.u64 21 63 = 21 := by decide
  go_enter Try.func35, Try.ntmps35
  go_wp2
  go_ret
  exact ⟨ret_int rfl, rfl⟩
theorem left21 (x : Int) (w : World) : Calls Try.prog 34 #[.int .u64 x, .int .u64 21] w fun e w' => e = .returned (.int .u64 (rl x 21)) ∧ w = w' := by
  go_enter Try.func34, Try.ntmps34
  go_wp2
  go_ret
  exact ⟨ret_int rfl, rfl⟩
theorem rot32 (x : Int) (w : World) : Calls Try.prog 35 #[.int .u64 x, .int .i64 32] w fun e w' => e = .returned (.int .u64 (rl x 32)) ∧ w = w' := by
  have e : bits BinOp.and IntKind.u64 32 63 = 32 := by decide
  go_enter Try.func35, Try.ntmps35
  go_wp2
  go_ret
  exact ⟨ret_int rfl, rfl⟩
theorem left32 (x : Int) (w : World) : Calls Try.prog 34 #[.int .u64 x, .int .u64 32] w fun e w' => e = .returned (.int .u64 (rl x 32)) ∧ w = w' := by
  go_enter Try.func34, Try.ntmps34
  go_wp2
  go_ret
  exact ⟨ret_int rfl, rfl⟩

def h01 (s : V) : V := ⟨ad s.a s.b, xr (rl s.b 13) (ad s.a s.b), s.c, s.d⟩
set_option maxHeartbeats 800000 in
theorem half01 (g : Nat) (s : V) (w : World) (h : Blk w g 49 (vs s)) :
    Calls Try.prog 32 #[.pointer (some ⟨g, 0, none⟩), .int .i64 0, .int .i64 1, .int .i64 13] w fun e w' => e = .returned (.tuple #[]) ∧ Left w w' g (h01 s) := by
  have c0 : w.cell? ⟨g, 0, none⟩ = some (.int .u64 s.a) := h.cell 0
  have c1 : w.cell? ⟨g, 1, none⟩ = some (.int .u64 s.b) := h.cell 1
  have f0 := h.free 0
  have f1 := h.free 1
  have HB := Lib.hid h
  clear h
  go_enter Try.func32, Try.ntmps32
  go_wp2_with fail
  go_region
  go_wp2_with fail
  go_region_with (go_at_call 35; refine (rot13 _ _).mono ?_; rintro e w' ⟨rfl, rfl⟩)
  all_goals
    go_wp2_with fail
    go_end0
    exact ⟨rfl, (HB.out.put 0 _ rfl).put 1 _ rfl, by repeat' (first | (with_reducible exact Chg.refl _ _) | (with_reducible refine Chg.draws ?_ _) | (with_reducible refine Chg.draw ?_) | (refine Chg.put ?_ (by exact Or.inl rfl) _) | (with_reducible refine Chg.more ?_ _))⟩

def h23 (s : V) : V := ⟨s.a, s.b, ad s.c s.d, xr (rl s.d 16) (ad s.c s.d)⟩
set_option maxHeartbeats 800000 in
theorem half23 (g : Nat) (s : V) (w : World) (h : Blk w g 49 (vs s)) :
    Calls Try.prog 32 #[.pointer (some ⟨g, 0, none⟩), .int .i64 2, .int .i64 3, .int .i64 16] w fun e w' => e = .returned (.tuple #[]) ∧ Left w w' g (h23 s) := by
  have c0 : w.cell? ⟨g, 2, none⟩ = some (.int .u64 s.c) := h.cell 2
  have c1 : w.cell? ⟨g, 3, none⟩ = some (.int .u64 s.d) := h.cell 3
  have f0 := h.free 2
  have f1 := h.free 3
  have HB := Lib.hid h
  clear h
  go_enter Try.func32, Try.ntmps32
  go_wp2_with fail
  go_region
  go_wp2_with fail
  go_region_with (go_at_call 35; refine (rot16 _ _).mono ?_; rintro e w' ⟨rfl, rfl⟩)
  all_goals
    go_wp2_with fail
    go_end0
    exact ⟨rfl, (HB.out.put 2 _ rfl).put 3 _ rfl, by repeat' (first | (with_reducible exact Chg.refl _ _) | (with_reducible refine Chg.draws ?_ _) | (with_reducible refine Chg.draw ?_) | (refine Chg.put ?_ (by exact Or.inl rfl) _) | (with_reducible refine Chg.more ?_ _))⟩

def h03 (s : V) : V := ⟨ad s.a s.d, s.b, s.c, xr (rl s.d 21) (ad s.a s.d)⟩
set_option maxHeartbeats 800000 in
theorem half03 (g : Nat) (s : V) (w : World) (h : Blk w g 49 (vs s)) :
    Calls Try.prog 32 #[.pointer (some ⟨g, 0, none⟩), .int .i64 0, .int .i64 3, .int .i64 21] w fun e w' => e = .returned (.tuple #[]) ∧ Left w w' g (h03 s) := by
  have c0 : w.cell? ⟨g, 0, none⟩ = some (.int .u64 s.a) := h.cell 0
  have c1 : w.cell? ⟨g, 3, none⟩ = some (.int .u64 s.d) := h.cell 3
  have f0 := h.free 0
  have f1 := h.free 3
  have HB := Lib.hid h
  clear h
  go_enter Try.func32, Try.ntmps32
  go_wp2_with fail
  go_region
  go_wp2_with fail
  go_region_with (go_at_call 35; refine (rot21 _ _).mono ?_; rintro e w' ⟨rfl, rfl⟩)
  all_goals
    go_wp2_with fail
    go_end0
    exact ⟨rfl, (HB.out.put 0 _ rfl).put 3 _ rfl, by repeat' (first | (with_reducible exact Chg.refl _ _) | (with_reducible refine Chg.draws ?_ _) | (with_reducible refine Chg.draw ?_) | (refine Chg.put ?_ (by exact Or.inl rfl) _) | (with_reducible refine Chg.more ?_ _))⟩

def h21 (s : V) : V := ⟨s.a, xr (rl s.b 17) (ad s.c s.b), ad s.c s.b, s.d⟩
set_option maxHeartbeats 800000 in
theorem half21 (g : Nat) (s : V) (w : World) (h : Blk w g 49 (vs s)) :
    Calls Try.prog 32 #[.pointer (some ⟨g, 0, none⟩), .int .i64 2, .int .i64 1, .int .i64 17] w fun e w' => e = .returned (.tuple #[]) ∧ Left w w' g (h21 s) := by
  have c0 : w.cell? ⟨g, 2, none⟩ = some (.int .u64 s.c) := h.cell 2
  have c1 : w.cell? ⟨g, 1, none⟩ = some (.int .u64 s.b) := h.cell 1
  have f0 := h.free 2
  have f1 := h.free 1
  have HB := Lib.hid h
  clear h
  go_enter Try.func32, Try.ntmps32
  go_wp2_with fail
  go_region
  go_wp2_with fail
  go_region_with (go_at_call 35; refine (rot17 _ _).mono ?_; rintro e w' ⟨rfl, rfl⟩)
  all_goals
    go_wp2_with fail
    go_end0
    exact ⟨rfl, (HB.out.put 2 _ rfl).put 1 _ rfl, by repeat' (first | (with_reducible exact Chg.refl _ _) | (with_reducible refine Chg.draws ?_ _) | (with_reducible refine Chg.draw ?_) | (refine Chg.put ?_ (by exact Or.inl rfl) _) | (with_reducible refine Chg.more ?_ _))⟩

def t0 (s : V) : V := ⟨rl s.a 32, s.b, s.c, s.d⟩
theorem turn0 (g : Nat) (s : V) (w : World) (h : Blk w g 49 (vs s)) :
    Calls Try.prog 33 #[.pointer (some ⟨g, 0, none⟩), .int .i64 0] w fun e w' => e = .returned (.tuple #[]) ∧ Left w w' g (t0 s) := by
  have c0 : w.cell? ⟨g, 0, none⟩ = some (.int .u64 s.a) := h.cell 0
  have f0 := h.free 0
  have HB := Lib.hid h
  clear h
  go_enter Try.func33, Try.ntmps33
  go_wp2_with fail
  go_region_with (go_at_call 35; refine (rot32 _ _).mono ?_; rintro e w' ⟨rfl, rfl⟩)
  all_goals
    go_wp2_with fail
    go_end0
    exact ⟨rfl, HB.out.put 0 _ rfl, by repeat' (first | (with_reducible exact Chg.refl _ _) | (with_reducible refine Chg.draws ?_ _) | (with_reducible refine Chg.draw ?_) | (refine Chg.put ?_ (by exact Or.inl rfl) _) | (with_reducible refine Chg.more ?_ _))⟩

def t2 (s : V) : V := ⟨s.a, s.b, rl s.c 32, s.d⟩
theorem turn2 (g : Nat) (s : V) (w : World) (h : Blk w g 49 (vs s)) :
    Calls Try.prog 33 #[.pointer (some ⟨g, 0, none⟩), .int .i64 2] w fun e w' => e = .returned (.tuple #[]) ∧ Left w w' g (t2 s) := by
  have c0 : w.cell? ⟨g, 2, none⟩ = some (.int .u64 s.c) := h.cell 2
  have f0 := h.free 2
  have HB := Lib.hid h
  clear h
  go_enter Try.func33, Try.ntmps33
  go_wp2_with fail
  go_region_with (go_at_call 35; refine (rot32 _ _).mono ?_; rintro e w' ⟨rfl, rfl⟩)
  all_goals
    go_wp2_with fail
    go_end0
    exact ⟨rfl, HB.out.put 2 _ rfl, by repeat' (first | (with_reducible exact Chg.refl _ _) | (with_reducible refine Chg.draws ?_ _) | (with_reducible refine Chg.draw ?_) | (refine Chg.put ?_ (by exact Or.inl rfl) _) | (with_reducible refine Chg.more ?_ _))⟩
end Go.Proofs.Ytgpdenhgbipopaa
