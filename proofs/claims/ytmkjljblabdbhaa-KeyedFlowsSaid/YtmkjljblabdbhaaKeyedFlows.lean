/-
  KeyedFlows: for every input the law answers true, and its arguments read as they did.
  No condition. The walk is in YtmkjljblabdbhaaFlowsLaw.
-/
import Derived.Test.YtmkjljblabdbhaaFlowsLaw
import Derived.Test.YtmkjljblabdbhaaFlowArg
import Derived.WalkKit
import Derived.ProofKit
import Derived.OpenShut
import Derived.ShutString
import Derived.ChangeOld
import Derived.Below
namespace Go.Proofs.Ytmkjljblabdbhaa.keyedFlows
open Go.ChangeShapes Go.WideShapes Go.ChangeAt Go.RowKit
open Go.ChangeMaps (open_string shut_string)
set_option linter.unusedVariables false

theorem own : ownKnob Try.prog.godebug = none := by kernel_rfl
theorem laidOut : laidOutB Try.prog = true := by kernel_rfl

set_option maxRecDepth 100000 in
theorem lifted (os : Os) (started : os.Started) (H : Type) (enc : TypeId × Value → H) :
    ReturnsInHanded {} Try.checked os 4 .any (Rows.keyedFlowsSpec.pre6 enc Try.prog Try.f4 Rows.keyedFlowsRow.domain false) (Rows.keyedFlowsSpec.post enc Try.prog Try.f4 false true false false) := by
  refine returnsInHanded_of_change (C := Try.checked) own started (by kernel_rfl) Try.func4
    (ChangeSpec.witness6 (enc := enc) (C := Try.checked) false ⟨#[], #[.agg #[.int .u64 0, .int .u64 0], .agg #[.int .u8 0, .int .u8 0, .int .u8 0, .int .u8 0, .int .u8 0, .int .u8 0, .int .u8 0, .int .u8 0, .int .u8 0, .int .u8 0, .int .u8 0, .int .u8 0, .int .u8 0, .int .u8 0, .int .u8 0, .int .u8 0, .int .i64 0, .int .u8 0, .int .u8 0, .int .u8 0, .int .u8 0, .int .u8 0, .int .u8 0, .int .u8 0, .int .u8 0, .int .u8 0, .int .u8 0, .int .u8 0, .int .u8 0, .int .u8 0, .int .u8 0, .int .u8 0, .int .u8 0, .int .i64 0], .agg #[.int .i64 0, .int .i64 0]], []⟩ 8 (by kernel_rfl) (by kernel_rfl) (by kernel_rfl) (by kernel_rfl)) ?_
  intro W base args ds gs before hval0 hW hcnd hreach
  have hval : ∀ (j : Nat) t v, Try.f4.params[j]? = some t → args[j]? = some v → Value.okWide Try.prog W .any base t v := hval0
  have hW' := hW
  obtain ⟨p, q, hA0, hV, rfl, hfz, hnd⟩ := hW
  have hA : DataW.TrodAll enc Try.prog W 0 (fun _ => true) true Try.f4.params.toList args.toList ds p := hA0
  rw [Try.params4] at hA hval
  obtain ⟨v0, vs0, d0, ds0, p0, q0, hargs, rfl, rfl, h0, r0⟩ := trodAll_cons hA
  obtain ⟨v1, vs1, d1, ds1, p1, q1, rfl, rfl, rfl, h1, r1⟩ := trodAll_cons r0
  obtain ⟨v2, vs2, d2, ds2, p2, q2, rfl, rfl, rfl, h2, r2⟩ := trodAll_cons r1
  obtain ⟨rfl, rfl, rfl⟩ := trodAll_nil r2
  obtain rfl : args = #[v0, v1, v2] := by cases args; simp_all
  obtain ⟨rfl, rfl⟩ := trodVars_none hV
  have k0 := h0
  have lt0 : ∀ x ∈ p0, x.block < W.heap.size := by obtain ⟨m, hm⟩ := k0; exact DataW.trod_lt m _ _ _ hm
  obtain ⟨cs0, fl0, rfl, g0⟩ := agg_of_struct Try.underlying24 (hval 0 24 v0 rfl rfl) h0
  obtain ⟨ns0, hn0, i0⟩ := ints_of_struct (k := .u64) Try.underlying24 (by kernel_rfl) (by kernel_rfl) (by kernel_rfl) g0
  obtain ⟨x0, y0, rfl⟩ : ∃ x y, ns0 = [x, y] := by
    match ns0, hn0 with
    | [x, y], _ => exact ⟨x, y, rfl⟩
  obtain rfl : cs0 = #[.int .u64 x0, .int .u64 y0] := by
    have := i0.1
    apply Array.toList_inj.mp
    rw [this]
    rfl
  have k1 := h1
  have lt1 : ∀ x ∈ p1, x.block < W.heap.size := by obtain ⟨m, hm⟩ := k1; exact DataW.trod_lt m _ _ _ hm
  obtain ⟨cs1, fl1, rfl, g1⟩ := agg_of_struct Try.underlying35 (hval 1 35 v1 rfl rfl) h1
  obtain ⟨src, sp, dst, dp, hF⟩ := flow_of g1
  have k2 := h2
  have lt2 : ∀ x ∈ p2, x.block < W.heap.size := by obtain ⟨m, hm⟩ := k2; exact DataW.trod_lt m _ _ _ hm
  obtain ⟨cs2, fu2, rfl, ht2⟩ := agg_of Try.underlying36 (hval 2 36 v2 rfl rfl) h2
  obtain ⟨ns2, hl2, hi2⟩ := ints_of_array Try.underlying36 Try.underlying3 (by kernel_rfl) (by kernel_rfl) ht2
  obtain ⟨a2, b2, rfl⟩ : ∃ x y, ns2 = [x, y] := by
    match ns2, hl2 with
    | [x, y], _ => exact ⟨x, y, rfl⟩
  obtain rfl : cs2 = #[.int .i64 a2, .int .i64 b2] := by
    have := hi2.1
    apply Array.toList_inj.mp
    rw [this]
    rfl
  clear hA0 hval0
  refine (KeyedFlows.walk x0 y0 a2 b2 cs1 src dst sp dp W hF).mono fun e W' ⟨he, bel⟩ => ?_
  subst he
  exact ⟨_, rfl, _, _, _, [], _, [], hW', trodAll_mk1 (shut_bool Try.underlying4 _), (trodAll_cons_mk (Below.trod laidOut (by kernel_rfl) (of_decide_eq_true (by kernel_rfl)) k0 bel lt0) (trodAll_cons_mk (Below.trod laidOut (by kernel_rfl) (of_decide_eq_true (by kernel_rfl)) k1 bel lt1) (trodAll_cons_mk (Below.trod laidOut (by kernel_rfl) (of_decide_eq_true (by kernel_rfl)) k2 bel lt2) trodAll_mk0))), rfl, bel.frame _, fun h => by cases h⟩

theorem over : Rows.keyedFlowsRow.holds Try.pinned (OpenSpec.ofChange Rows.keyedFlowsSpec) :=
  OpenClaim.holds_of_wide 4 Try.f4 rfl rfl rfl rfl rfl rfl rfl ⟨rfl, rfl, rfl, rfl, rfl⟩ rfl rfl rfl rfl rfl (by kernel_rfl) Try.func4 (by kernel_rfl)
    (of_decide_eq_true (by kernel_rfl)) (by unfold Func.isWrapper; first | (rw [if_pos (by decide +kernel)]; kernel_rfl) | (rw [if_neg (by decide +kernel)]; exact ⟨rfl, rfl⟩))
    (fun os started H enc _ => lifted os started H enc)

theorem proved : Rows.KeyedFlowsSaid := over
#print axioms proved
end Go.Proofs.Ytmkjljblabdbhaa.keyedFlows
