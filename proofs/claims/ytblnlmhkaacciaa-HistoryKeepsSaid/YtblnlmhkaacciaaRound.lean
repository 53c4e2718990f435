/-
  The walk of pick.round. No condition.
-/
import Derived.Test.YtblnlmhkaacciaaRefTwo
namespace Go.Proofs.Ytblnlmhkaacciaa
open Go.ChangeShapes Go.WideShapes Go.ChangeAt Go.RowKit
set_option linter.unusedVariables false
set_option linter.unusedSimpArgs false

theorem round_any (s : Value) (hs : ∃ A n c, s = .slice A n c) (k : Int) (w : World) : Calls Try.prog 30 #[s, .int .i64 k] w fun e w' => e = .returned (.func (.func 31) #[] #[.pointer (some ⟨w.heap.size, 0, none⟩), .pointer (some ⟨w.heap.size + 1, 0, none⟩)]) ∧ w' = (w.alloc (.cells #[s] 26)).alloc (.cells #[.int .i64 k] 3) := by
  obtain ⟨A, n, c, rfl⟩ := hs
  go_enter Try.func30, Try.ntmps30
  go_wp2_with fail
  go_ret
  exact ⟨rfl, rfl⟩
end Go.Proofs.Ytblnlmhkaacciaa
