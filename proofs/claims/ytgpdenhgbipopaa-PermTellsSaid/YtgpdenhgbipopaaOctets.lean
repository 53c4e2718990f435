/-
  The walks of what writes numbers as bytes: octets.two, Put16, Put32; harrierref01.Two, Four. No condition.
-/
import Derived.Test.YtgpdenhgbipopaaRefSum
import Derived.ArgAppend
namespace Go.Proofs.Ytgpdenhgbipopaa
open Go.ChangeShapes Go.WideShapes Go.ChangeAt Go.RowKit
set_option linter.unusedVariables false

theorem info5 : (Try.prog.info? 5).map (fun i => (i.zero, i.size, i.bytes)) = some (some (.int .u8 0), 1, 1) := by kernel_rfl
def by2 (x : Int) : List Int := [x / 256 % 256, x % 256]
def by4 (x : Int) : List Int := [x / 16777216, x / 65536 % 256, x / 256 % 256, x % 256]
def u8s (zs : List Int) : List Value := zs.map (Value.int .u8)
def OwnB (w : World) (B : Nat) (v : Value) (zs : List Int) : Prop := w.ownsRow B 5 1 v zs.length (u8s zs)
theorem OwnB.form {w : World} {B : Nat} {v : Value} {zs : List Int} (h : OwnB w B v zs) : ∃ A c, v = .slice A zs.length c := by
  rcases h.2 with ⟨rfl, h0⟩ | ⟨g, cap, cur, rfl, _⟩
  · exact ⟨none, 0, by rw [h0]⟩
  · exact ⟨_, _, rfl⟩
theorem OwnB.row {w : World} {B : Nat} {A : Option Addr} {n c : Nat} {zs : List Int} (h : OwnB w B (.slice A n c) zs) (hb : Bytes zs) (hn : 0 < zs.length) : n = zs.length ∧ n ≤ c ∧ BRow w A n zs := by
  rcases h.2 with ⟨_, h0⟩ | ⟨g, cap, cur, hv, hg, hh, hcap, hmax, hsz, htk⟩
  · omega
  injection hv with hA h1 h2
  subst hA h1 h2
  refine ⟨rfl, hcap, rfl, hb, fun _ => ⟨g, 0, rfl, lt_of_block hh, fun i hi => ?_⟩⟩
  rw [cell_of_row w g (0 + i) cur 5 (0, 0) hh, Nat.zero_add]
  have h1 : (cur.toList.take (zs.length * 1))[i]? = some (.int .u8 (zs.getD i 0)) := by
    rw [htk]; simp [u8s, hi]
  rw [List.getElem?_take, if_pos (by omega)] at h1
  simpa using h1
theorem cells2 {w : World} {n : Nat} {t : TypeId} {x y : Value} (h : w.heap[n]? = some (.cells #[x, y] t (0, 0))) : ∀ j u, [x, y][j]? = some u → w.cell? ((⟨n, 0, none⟩ : Addr).add j) = some u := by
  intro j u hj
  match j, hj with
  | 0, hj => simp at hj; subst hj; simp [Addr.add, World.cell?, h]
  | 1, hj => simp at hj; subst hj; simp [Addr.add, World.cell?, h]

theorem OwnB.later {w v : World} {B : Nat} {x : Value} {zs : List Int} (h : OwnB w B x zs) (hb : Below w.heap.size w v) : OwnB v B x zs := by
  refine ⟨h.1, h.2.imp id fun ⟨g, cap, cur, h1, h2, h3, h4⟩ => ⟨g, cap, cur, h1, h2, (hb.block g (lt_of_block h3)).trans h3, h4⟩⟩
theorem OwnB.nil (w : World) (B : Nat) : OwnB w B (.slice none 0 0) [] := World.ownsRow_nil _ _ _ _
theorem stepB {w wr w1 : World} {B m : Nat} {v v' : Value} {zs ys : List Int} (h : OwnB wr B v zs) (hb : Below B w wr) (hB : B ≤ wr.heap.size) (hm : ys.length = m)
    (h' : w1.ownsRow B 5 1 v' (zs.length + m) (u8s zs ++ u8s ys)) (hg : wr.grownBy w1 v.ownBlock) : OwnB w1 B v' (zs ++ ys) ∧ Below B w w1 := by
  refine ⟨?_, hb.grown hg hB (fun k hk => (h.lt k hk).1)⟩
  unfold OwnB u8s
  rw [List.length_append, List.map_append, hm]
  exact h'
theorem cells4 {w : World} {n : Nat} {t : TypeId} {x y z u : Value} (h : w.heap[n]? = some (.cells #[x, y, z, u] t (0, 0))) : ∀ j r, [x, y, z, u][j]? = some r → w.cell? ((⟨n, 0, none⟩ : Addr).add j) = some r := by
  intro j u hj
  match j, hj with
  | 0, hj => simp at hj; subst hj; simp [Addr.add, World.cell?, h]
  | 1, hj => simp at hj; subst hj; simp [Addr.add, World.cell?, h]
  | 2, hj => simp at hj; subst hj; simp [Addr.add, World.cell?, h]
  | 3, hj => simp at hj; subst hj; simp [Addr.add, World.cell?, h]

theorem and_mask (x : Int) : bits .and .i64 x 65535 = x % 65536 := by
  have h1 : (BitVec.ofInt 64 x &&& BitVec.ofInt 64 65535).toNat = (x % 18446744073709551616).toNat % 65536 := by
    rw [BitVec.toNat_and, BitVec.toNat_ofInt, show (BitVec.ofInt 64 65535).toNat = 65535 by decide]
    exact nat_mask16 _
  show IntKind.i64.wrap (((BitVec.ofInt 64 x &&& BitVec.ofInt 64 65535).toNat : Nat) : Int) = _
  rw [h1, IntWalk.i64_in _ (by omega)]
  omega
theorem refTwo_any (x : Int) (w : World) (hx : -9223372036854775808 ≤ x ∧ x ≤ 9223372036854775807) : Calls Try.prog 31 #[.int .i64 x] w fun e w' => ∃ v, e = .returned v ∧ OwnB w' w.heap.size v (by2 x) ∧ Below w.heap.size w w' := by
  have e0 := and_mask x
  have e1 : 0 ≤ x % 65536 ∧ x % 65536 ≤ 65535 := by omega
  obtain ⟨y, hy⟩ : ∃ y, x % 65536 = y := ⟨_, rfl⟩
  rw [hy] at e0 e1
  have HY := Lib.hid hy
  clear hy
  go_enter Try.func31, Try.ntmps31
  go_wp2
  go_ret
  refine ⟨_, rfl, ?_, (Below.refl w.heap.size w).alloc (Nat.le_refl _) _⟩
  have h1 : y / 256 = x / 256 % 256 := by have := HY.out; omega
  have h2 : y % 256 = x % 256 := by have := HY.out; omega
  refine ⟨rfl, Or.inr ⟨w.heap.size, 2, _, rfl, Nat.le_refl _, heap_alloc_new w _, Nat.le_refl _, by unfold maxLen; omega, rfl, ?_⟩⟩
  rw [h1, h2]
  rfl

theorem put32_any (B : Nat) (v : Value) (zs : List Int) (x : Int) (w : World) (h : OwnB w B v zs) (hB : B ≤ w.heap.size) (hz : zs.length ≤ 1000) (hx : 0 ≤ x ∧ x ≤ 4294967295) :
    Calls Try.prog 22 #[v, .int .u32 x] w fun e w' => ∃ v', e = .returned v' ∧ OwnB w' B v' (zs ++ by4 x) ∧ Below B w w' := by
  obtain ⟨i0, hi, hz0, hz1, hz2⟩ := info_parts info5
  have HZ := Lib.hid (And.intro hi (And.intro hz0 (And.intro hz1 hz2)))
  have HH := Lib.hid h
  obtain ⟨A, c, rfl⟩ := h.form
  clear h hi hz0 hz1 hz2
  go_enter Try.func22, Try.ntmps22
  go_wp2_with (at_builtin; refine wpList_append_own _ rfl _ _ 43 rfl B 5 i0 _ 1 1 Try.underlying43 HZ.out.1 HZ.out.2.1 HZ.out.2.2.1 HZ.out.2.2.2 rfl (by decide) _ zs.length (u8s zs) rfl (World.ownsRow.alloc HH.out _) ⟨w.heap.size, 0, none⟩ 4 4 [.int .u8 (x / 16777216), .int .u8 (x / 65536 % 256), .int .u8 (x / 256 % 256), .int .u8 (x % 256)] rfl rfl ?c1 ?c2 ?c3 ?c4 ?c5 ?_)
  case c1 => exact cells4 (by simpa using heap_alloc_new w _)
  case c2 => intro u hu; simp at hu; rcases hu with rfl | rfl | rfl | rfl <;> rfl
  case c3 => unfold maxLen; omega
  case c4 => omega
  case c5 => simp; omega
  intro v' w2 hown hgrow _
  have R := stepB (ys := by4 x) (w := w) (HH.out.alloc _) ((Below.refl B w).alloc hB _) (by simp; omega) rfl hown hgrow
  have HR := Lib.hid R
  clear R hown hgrow
  go_wp2
  go_ret
  exact ⟨_, rfl, HR.out⟩
end Go.Proofs.Ytgpdenhgbipopaa
