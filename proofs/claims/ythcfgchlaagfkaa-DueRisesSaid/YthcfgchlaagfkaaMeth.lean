/-
  The methods of a heap's items, asked for through an interface value. No condition.
-/
import Derived.Test.YthcfgchlaagfkaaMem
import Derived.WalkSpells
import Derived.WalkLawsBesides
import Derived.RegionTactic
import Derived.Deep.RegionWith
import Derived.BigRegion
import Derived.Deep.DeepCutAuto
import Derived.Deep.LoopGhost
import Derived.OwnWalk
import Derived.Deep.MidRow
import Derived.Deep.RegionHeld3
import Derived.StillTailTactics
namespace Go.Proofs.Ythcfgchlaagfkaa
open Go.ChangeShapes Go.WideShapes Go.ChangeAt Go.RowKit
set_option linter.unusedVariables false
set_option linter.unusedSimpArgs false

theorem run_load44 (P : Addr) (A : Option Addr) (n c : Nat) (w : World) (h : w.cell? P = some (.slice A n c)) : (loadVar 44 P).run Try.prog w = .ok (.slice A n c) w := by
  simp [go_sem, h]
theorem meth_of (name : String) (f : FuncId) (hm : (Try.prog.info? 49).map (fun i => (i.methods.find? (·.name == name)).map (fun m => (m.path, m.func))) = some (some (#[], some (f, false)))) (P : Addr) (A : Option Addr) (n c : Nat) (w : World) (h : w.cell? P = some (.slice A n c)) :
    (method 182 49 (.pointer (some P)) name).run Try.prog w = .ok (f, .slice A n c) w := by
  cases hi : Try.prog.info? 49 with
  | none => rw [hi] at hm; cases hm
  | some i =>
    rw [hi] at hm
    simp only [Option.map_some, Option.some.injEq] at hm
    cases hf : i.methods.find? (·.name == name) with
    | none => rw [hf] at hm; cases hm
    | some m =>
      rw [hf] at hm
      simp only [Option.map_some, Option.some.injEq, Prod.mk.injEq] at hm
      obtain ⟨h1, h2⟩ := hm
      have ht : (typeInfo 49).run Try.prog w = .ok i w := by simp [typeInfo, hi, go_sem]
      unfold method
      simp only [Sem.run_bind, ht, Result.andThen_ok, hf, h1, h2]
      have hu := run_underlying (P := Try.prog) Try.underlying49 w
      have hnil : ∀ a b : String, (Builtin.ssaWrapNilChk_ #[49] 49 #[.pointer (some P), strVal a, strVal b]).run Try.prog w = .ok (.pointer (some P)) w := fun a b => rfl
      simp [follow, receiverAt, Sem.run_bind, hu, Place.get, hnil, run_load44 P A n c w h, asAddr]
theorem m44 : (Try.prog.info? 49).map (fun i => (i.methods.find? (·.name == "Len")).map (fun m => (m.path, m.func))) = some (some (#[], some (44, false))) := by kernel_rfl
theorem m45 : (Try.prog.info? 49).map (fun i => (i.methods.find? (·.name == "Less")).map (fun m => (m.path, m.func))) = some (some (#[], some (45, false))) := by kernel_rfl
theorem m46 : (Try.prog.info? 49).map (fun i => (i.methods.find? (·.name == "Swap")).map (fun m => (m.path, m.func))) = some (some (#[], some (46, false))) := by kernel_rfl
theorem meth_len (P : Addr) (A : Option Addr) (n c : Nat) (w : World) (h : w.cell? P = some (.slice A n c)) : (method 182 49 (.pointer (some P)) "Len").run Try.prog w = .ok (44, .slice A n c) w := meth_of "Len" 44 m44 P A n c w h
theorem meth_less (P : Addr) (A : Option Addr) (n c : Nat) (w : World) (h : w.cell? P = some (.slice A n c)) : (method 182 49 (.pointer (some P)) "Less").run Try.prog w = .ok (45, .slice A n c) w := meth_of "Less" 45 m45 P A n c w h
theorem meth_swap (P : Addr) (A : Option Addr) (n c : Nat) (w : World) (h : w.cell? P = some (.slice A n c)) : (method 182 49 (.pointer (some P)) "Swap").run Try.prog w = .ok (46, .slice A n c) w := meth_of "Swap" 46 m46 P A n c w h
theorem len_any (A : Option Addr) (n c : Nat) (w : World) : Calls Try.prog 44 #[.slice A n c] w fun e w' => e = .returned (.int .i64 (n : Int)) ∧ w = w' := by
  go_enter Try.func44, Try.ntmps44
  go_wp2
  go_ret
  exact ⟨rfl, rfl⟩

/-- An item: when it is due, its number, the so many-th. -/
structure It where
  at_ : Int
  id : Int
  seq : Int
def It.val (p : It) : List Value := [.int .i64 p.at_, .int .i64 p.id, .int .i64 p.seq]
def flatI (l : List It) : List Value := l.flatMap It.val
theorem flatI_len (l : List It) : (flatI l).length = l.length * 3 := by
  induction l with
  | nil => rfl
  | cons p t ih => simp [flatI, It.val] at *; omega
theorem flatI_append (a b : List It) : flatI (a ++ b) = flatI a ++ flatI b := by simp [flatI]
theorem flatI_single (p : It) : flatI [p] = p.val := by simp [flatI]
theorem flatI_at : ∀ (l : List It) (i : Nat) (h : i < l.length), (flatI l)[i * 3]? = some (.int .i64 l[i].at_) ∧ (flatI l)[i * 3 + 1]? = some (.int .i64 l[i].id) ∧ (flatI l)[i * 3 + 2]? = some (.int .i64 l[i].seq)
  | p :: t, 0, _ => ⟨rfl, rfl, rfl⟩
  | p :: t, i + 1, h => by
    have r := flatI_at t i (by simpa using h)
    have e : flatI (p :: t) = .int .i64 p.at_ :: .int .i64 p.id :: .int .i64 p.seq :: flatI t := rfl
    rw [e, show (i + 1) * 3 = i * 3 + 1 + 1 + 1 by omega, show i * 3 + 1 + 1 + 1 + 1 = (i * 3 + 1) + 1 + 1 + 1 by omega, show i * 3 + 1 + 1 + 1 + 2 = (i * 3 + 2) + 1 + 1 + 1 by omega]
    exact r
theorem flatI_set : ∀ (l : List It) (i : Nat) (p : It), i < l.length → (((flatI l).set (i * 3) (.int .i64 p.at_)).set (i * 3 + 1) (.int .i64 p.id)).set (i * 3 + 2) (.int .i64 p.seq) = flatI (l.set i p)
  | q :: t, 0, p, _ => rfl
  | q :: t, i + 1, p, h => by
    have r := flatI_set t i p (by simpa using h)
    have e : flatI (q :: t) = .int .i64 q.at_ :: .int .i64 q.id :: .int .i64 q.seq :: flatI t := rfl
    rw [e, show (i + 1) * 3 = i * 3 + 1 + 1 + 1 by omega, show i * 3 + 1 + 1 + 1 + 1 = (i * 3 + 1) + 1 + 1 + 1 by omega, show i * 3 + 1 + 1 + 1 + 2 = (i * 3 + 2) + 1 + 1 + 1 by omega]
    simp only [List.set_cons_succ, r]
    rfl
/-- Does an item come ahead of another one? -/
def lessB (x y : It) : Bool := if x.at_ = y.at_ then (if x.id = y.id then decide (x.seq < y.seq) else decide (x.id < y.id)) else decide (x.at_ < y.at_)
set_option maxHeartbeats 800000 in
theorem less_any (x y : It) (w : World) : Calls Try.prog 47 #[.agg #[.int .i64 x.at_, .int .i64 x.id, .int .i64 x.seq], .agg #[.int .i64 y.at_, .int .i64 y.id, .int .i64 y.seq]] w fun e w' => e = .returned (.bool (lessB x y)) ∧ Below w.heap.size w w' := by
  obtain ⟨a, b, c⟩ := x
  obtain ⟨d, e, f⟩ := y
  have hb : Hid (Below w.heap.size w ((w.alloc (.cells #[.int .i64 a, .int .i64 b, .int .i64 c] 51)).alloc (.cells #[.int .i64 d, .int .i64 e, .int .i64 f] 51))) := ((Below.refl _ _).alloc (Nat.le_refl _) _).alloc (by simp) _
  by_cases h1 : a = d
  · subst h1
    by_cases h2 : b = e
    · subst h2
      have hl : lessB ⟨a, b, c⟩ ⟨a, b, f⟩ = decide (c < f) := by simp [lessB]
      rw [hl]
      clear hl
      go_enter Try.func47, Try.ntmps47
      go_wp2_with fail
      go_ret
      exact ⟨rfl, hb.out⟩
    · have t2 : (b != e) = true := by simpa using h2
      have hl : lessB ⟨a, b, c⟩ ⟨a, e, f⟩ = decide (b < e) := by simp [lessB, h2]
      rw [hl]
      clear hl h2
      go_enter Try.func47, Try.ntmps47
      go_wp2_with fail
      go_ret
      exact ⟨rfl, hb.out⟩
  · have t1 : (a != d) = true := by simpa using h1
    have hl : lessB ⟨a, b, c⟩ ⟨d, e, f⟩ = decide (a < d) := by simp [lessB, h1]
    rw [hl]
    clear hl h1
    go_enter Try.func47, Try.ntmps47
    go_wp2_with fail
    go_ret
    exact ⟨rfl, hb.out⟩
end Go.Proofs.Ythcfgchlaagfkaa
