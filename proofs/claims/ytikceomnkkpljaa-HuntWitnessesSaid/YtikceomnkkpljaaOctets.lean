/-
  The walks of what writes numbers as bytes: octets.two, Put16, Put32; harrierref01.Two, Four. No condition.
-/
import Derived.Test.YtikceomnkkpljaaMem
import Derived.WalkSpells
import Derived.WalkLawsBesides
import Derived.RegionTactic
import Derived.Deep.RegionWith
import Derived.BigRegion
import Derived.Deep.DeepCutAuto
import Derived.Deep.LoopGhost
import Derived.OwnWalk
import Derived.Deep.MidRow
import Derived.Deep.RegionHeld3
import Derived.Deep.AppendLies
import Derived.Handy
import Derived.ArgAppend
namespace Go.Proofs.Ytikceomnkkpljaa
open Go.ChangeShapes Go.WideShapes Go.ChangeAt Go.RowKit
set_option linter.unusedVariables false
set_option linter.unusedSimpArgs false

theorem info5 : (Try.prog.info? 5).map (fun i => (i.zero, i.size, i.bytes)) = some (some (.int .u8 0), 1, 1) := by kernel_rfl
def by2 (x : Int) : List Int := [x / 256 % 256, x % 256]
def by4 (x : Int) : List Int := [x / 16777216, x / 65536 % 256, x / 256 % 256, x % 256]
def u8s (zs : List Int) : List Value := zs.map (Value.int .u8)
def OwnB (w : World) (B : Nat) (v : Value) (zs : List Int) : Prop := w.ownsRow B 5 1 v zs.length (u8s zs)
theorem OwnB.form {w : World} {B : Nat} {v : Value} {zs : List Int} (h : OwnB w B v zs) : ∃ A c, v = .slice A zs.length c := by
  rcases h.2 with ⟨rfl, h0⟩ | ⟨g, cap, cur, rfl, _⟩
  · exact ⟨none, 0, by rw [h0]⟩
  · exact ⟨_, _, rfl⟩
theorem cells2 {w : World} {n : Nat} {t : TypeId} {x y : Value} (h : w.heap[n]? = some (.cells #[x, y] t (0, 0))) : ∀ j u, [x, y][j]? = some u → w.cell? ((⟨n, 0, none⟩ : Addr).add j) = some u := by
  intro j u hj
  match j, hj with
  | 0, hj => simp at hj; subst hj; simp [Addr.add, World.cell?, h]
  | 1, hj => simp at hj; subst hj; simp [Addr.add, World.cell?, h]

theorem OwnB.later {w v : World} {B : Nat} {x : Value} {zs : List Int} (h : OwnB w B x zs) (hb : Below w.heap.size w v) : OwnB v B x zs := by
  refine ⟨h.1, h.2.imp id fun ⟨g, cap, cur, h1, h2, h3, h4⟩ => ⟨g, cap, cur, h1, h2, (hb.block g (lt_of_block h3)).trans h3, h4⟩⟩
theorem OwnB.nil (w : World) (B : Nat) : OwnB w B (.slice none 0 0) [] := World.ownsRow_nil _ _ _ _
theorem stepB {w wr w1 : World} {B m : Nat} {v v' : Value} {zs ys : List Int} (h : OwnB wr B v zs) (hb : Below B w wr) (hB : B ≤ wr.heap.size) (hm : ys.length = m)
    (h' : w1.ownsRow B 5 1 v' (zs.length + m) (u8s zs ++ u8s ys)) (hg : wr.grownBy w1 v.ownBlock) : OwnB w1 B v' (zs ++ ys) ∧ Below B w w1 := by
  refine ⟨?_, hb.grown hg hB (fun k hk => (h.lt k hk).1)⟩
  unfold OwnB u8s
  rw [List.length_append, List.map_append, hm]
  exact h'
theorem cells4 {w : World} {n : Nat} {t : TypeId} {x y z u : Value} (h : w.heap[n]? = some (.cells #[x, y, z, u] t (0, 0))) : ∀ j r, [x, y, z, u][j]? = some r → w.cell? ((⟨n, 0, none⟩ : Addr).add j) = some r := by
  intro j u hj
  match j, hj with
  | 0, hj => simp at hj; subst hj; simp [Addr.add, World.cell?, h]
  | 1, hj => simp at hj; subst hj; simp [Addr.add, World.cell?, h]
  | 2, hj => simp at hj; subst hj; simp [Addr.add, World.cell?, h]
  | 3, hj => simp at hj; subst hj; simp [Addr.add, World.cell?, h]

theorem two_any (x : Int) (w : World) (hx : -9223372036854775808 ≤ x ∧ x ≤ 9223372036854775807) : Calls Try.prog 42 #[.int .i64 x] w fun e w' => e = .returned (.agg #[.int .u8 (x / 256 % 256), .int .u8 (x % 256)]) ∧ Below w.heap.size w w' := by
  go_enter Try.func42, Try.ntmps42
  go_wp2
  go_returns
  exact ⟨rfl, (Below.refl w.heap.size w).alloc (Nat.le_refl _) _⟩
theorem nat_mask16 (m : Nat) : m &&& 65535 = m % 65536 := Nat.and_two_pow_sub_one_eq_mod m 16
theorem and_mask (x : Int) : bits .and .i64 x 65535 = x % 65536 := by
  have h1 : (BitVec.ofInt 64 x &&& BitVec.ofInt 64 65535).toNat = (x % 18446744073709551616).toNat % 65536 := by
    rw [BitVec.toNat_and, BitVec.toNat_ofInt, show (BitVec.ofInt 64 65535).toNat = 65535 by decide]
    exact nat_mask16 _
  show IntKind.i64.wrap (((BitVec.ofInt 64 x &&& BitVec.ofInt 64 65535).toNat : Nat) : Int) = _
  rw [h1, IntWalk.i64_in _ (by omega)]
  omega
theorem refTwo_any (x : Int) (w : World) (hx : -9223372036854775808 ≤ x ∧ x ≤ 9223372036854775807) : Calls Try.prog 40 #[.int .i64 x] w fun e w' => ∃ v, e = .returned v ∧ OwnB w' w.heap.size v (by2 x) ∧ Below w.heap.size w w' := by
  have e0 := and_mask x
  have e1 : 0 ≤ x % 65536 ∧ x % 65536 ≤ 65535 := by omega
  obtain ⟨y, hy⟩ : ∃ y, x % 65536 = y := ⟨_, rfl⟩
  rw [hy] at e0 e1
  have HY := Lib.hid hy
  clear hy
  go_enter Try.func40, Try.ntmps40
  go_wp2
  go_ret
  refine ⟨_, rfl, ?_, (Below.refl w.heap.size w).alloc (Nat.le_refl _) _⟩
  have h1 : y / 256 = x / 256 % 256 := by have := HY.out; omega
  have h2 : y % 256 = x % 256 := by have := HY.out; omega
  refine ⟨rfl, Or.inr ⟨w.heap.size, 2, _, rfl, Nat.le_refl _, heap_alloc_new w _, Nat.le_refl _, by unfold maxLen; omega, rfl, ?_⟩⟩
  rw [h1, h2]
  rfl

theorem put16_any (B : Nat) (v : Value) (zs : List Int) (x : Int) (w : World) (h : OwnB w B v zs) (hB : B ≤ w.heap.size) (hz : zs.length ≤ 1000) (hx : -9223372036854775808 ≤ x ∧ x ≤ 9223372036854775807) :
    Calls Try.prog 38 #[v, .int .i64 x] w fun e w' => ∃ v', e = .returned v' ∧ OwnB w' B v' (zs ++ by2 x) ∧ Below B w w' ∧ Chg (fun k => some k = v.ownBlock) w w' := by
  obtain ⟨i0, hi, hz0, hz1, hz2⟩ := info_parts info5
  have HZ := Lib.hid (And.intro hi (And.intro hz0 (And.intro hz1 hz2)))
  have HH := Lib.hid h
  obtain ⟨A, c, rfl⟩ := h.form
  clear h hi hz0 hz1 hz2
  go_enter Try.func38, Try.ntmps38
  go_wp2_with fail
  refine (two_any x _ hx).mono ?_; rintro e w1 ⟨rfl, h1⟩
  have H1 := Lib.hid h1
  have hw1 := h1.size
  clear h1
  go_wp2_with (at_builtin; refine wpList_append_own _ rfl _ _ 58 rfl B 5 i0 _ 1 1 Try.underlying58 HZ.out.1 HZ.out.2.1 HZ.out.2.2.1 HZ.out.2.2.2 rfl (by decide) _ zs.length (u8s zs) rfl (World.ownsRow.alloc (World.ownsRow.alloc (HH.out.later H1.out) _) _) ⟨w1.heap.size + 1, 0, none⟩ 2 2 [.int .u8 (x / 256 % 256), .int .u8 (x % 256)] rfl rfl ?c1 ?c2 ?c3 ?c4 ?c5 ?_)
  case c1 => exact cells2 (by simpa using heap_alloc_new (w1.alloc _) _)
  case c2 => intro u hu; simp at hu; rcases hu with rfl | rfl <;> rfl
  case c3 => unfold maxLen; omega
  case c4 => omega
  case c5 => simp; omega
  intro v' w2 hown hgrow _
  have R := stepB (ys := by2 x) (w := w) (((HH.out.later H1.out).alloc _).alloc _) ((((H1.out.mono hB).alloc (by omega) _)).alloc (by simp; omega) _) (by simp; omega) rfl hown hgrow
  have hch : Chg (fun k => some k = (Value.slice A zs.length c).ownBlock) w w2 := (Chg.of_below ((H1.out.alloc hw1 _).alloc (by simp; omega) _)).trans (Chg.of_grown hgrow) (fun k hk h => h)
  have HR := Lib.hid (And.intro R.1 (And.intro R.2 hch))
  clear R hown hgrow hch
  go_wp2
  go_ret
  exact ⟨_, rfl, HR.out⟩

theorem put32_any (B : Nat) (v : Value) (zs : List Int) (x : Int) (w : World) (h : OwnB w B v zs) (hB : B ≤ w.heap.size) (hz : zs.length ≤ 1000) (hx : 0 ≤ x ∧ x ≤ 4294967295) :
    Calls Try.prog 39 #[v, .int .u32 x] w fun e w' => ∃ v', e = .returned v' ∧ OwnB w' B v' (zs ++ by4 x) ∧ Below B w w' := by
  obtain ⟨i0, hi, hz0, hz1, hz2⟩ := info_parts info5
  have HZ := Lib.hid (And.intro hi (And.intro hz0 (And.intro hz1 hz2)))
  have HH := Lib.hid h
  obtain ⟨A, c, rfl⟩ := h.form
  clear h hi hz0 hz1 hz2
  go_enter Try.func39, Try.ntmps39
  go_wp2_with (at_builtin; refine wpList_append_own _ rfl _ _ 58 rfl B 5 i0 _ 1 1 Try.underlying58 HZ.out.1 HZ.out.2.1 HZ.out.2.2.1 HZ.out.2.2.2 rfl (by decide) _ zs.length (u8s zs) rfl (World.ownsRow.alloc HH.out _) ⟨w.heap.size, 0, none⟩ 4 4 [.int .u8 (x / 16777216), .int .u8 (x / 65536 % 256), .int .u8 (x / 256 % 256), .int .u8 (x % 256)] rfl rfl ?c1 ?c2 ?c3 ?c4 ?c5 ?_)
  case c1 => exact cells4 (by simpa using heap_alloc_new w _)
  case c2 => intro u hu; simp at hu; rcases hu with rfl | rfl | rfl | rfl <;> rfl
  case c3 => unfold maxLen; omega
  case c4 => omega
  case c5 => simp; omega
  intro v' w2 hown hgrow _
  have R := stepB (ys := by4 x) (w := w) (HH.out.alloc _) ((Below.refl B w).alloc hB _) (by simp; omega) rfl hown hgrow
  have HR := Lib.hid R
  clear R hown hgrow
  go_wp2
  go_ret
  exact ⟨_, rfl, HR.out⟩
theorem OwnB.mono {w : World} {B B' : Nat} {v : Value} {zs : List Int} (h : OwnB w B v zs) (hb : B' ≤ B) : OwnB w B' v zs :=
  ⟨h.1, h.2.imp id fun ⟨g, cap, cur, h1, h2, h3⟩ => ⟨g, cap, cur, h1, Nat.le_trans hb h2, h3⟩⟩
def At (w : World) (p : Addr) (zs : List Int) : Prop := ∀ j u, (u8s zs)[j]? = some u → w.cell? (p.add j) = some u
theorem At.later {w v : World} {p : Addr} {zs : List Int} (h : At w p zs) (hp : p.block < w.heap.size) (hb : Below w.heap.size w v) : At v p zs := fun j u hj => (hb.cell (p := p.add j) (by unfold Addr.add; split <;> exact hp)).trans (h j u hj)
theorem OwnB.at_ {w : World} {B : Nat} {v : Value} {zs : List Int} (h : OwnB w B v zs) (hn : 0 < zs.length) : ∃ g c, v = .slice (some ⟨g, 0, none⟩) zs.length c ∧ B ≤ g ∧ g < w.heap.size ∧ At w ⟨g, 0, none⟩ zs := by
  rcases h.2 with ⟨_, h0⟩ | ⟨g, cap, cur, rfl, hg, hh, hcap, hmax, hsz, htk⟩
  · omega
  refine ⟨g, cap, rfl, hg, lt_of_block hh, fun j u hj => ?_⟩
  rw [Addr.add_mid, Nat.zero_add, cell_of_row w g j cur 5 (0, 0) hh]
  have hl : j < zs.length := by
    have := (List.getElem?_eq_some_iff.1 hj).1
    simpa [u8s] using this
  rw [← htk, List.getElem?_take, if_pos (by omega)] at hj
  simpa using hj
theorem u8s_one {zs : List Int} : ∀ u ∈ u8s zs, u.oneCell' = true := by
  intro u hu
  simp only [u8s, List.mem_map] at hu
  obtain ⟨z, _, rfl⟩ := hu
  rfl
theorem by2_len (x : Int) : (by2 x).length = 2 := rfl

theorem four_any (x : Int) (w : World) (hx : 0 ≤ x ∧ x ≤ 4294967295) :
    Calls Try.prog 41 #[.int .u32 x] w fun e w' => ∃ v', e = .returned v' ∧ OwnB w' w.heap.size v' (by4 x) ∧ Below w.heap.size w w' := by
  obtain ⟨i0, hi, hz0, hz1, hz2⟩ := info_parts info5
  have HZ := Lib.hid (And.intro hi (And.intro hz0 (And.intro hz1 hz2)))
  clear hi hz0 hz1 hz2
  go_enter Try.func41, Try.ntmps41
  go_wp2_with fail
  refine (refTwo_any (x / 65536) _ (by omega)).mono ?_; rintro e w1 ⟨v1, rfl, h1⟩
  have H1 := Lib.hid h1
  have hw1 := h1.2.size
  obtain ⟨A1, c1, rfl⟩ := h1.1.form
  clear h1
  rw [by2_len] at H1
  go_wp2_with fail
  refine (refTwo_any (x % 65536) _ (by omega)).mono ?_; rintro e w2 ⟨v2, rfl, h2⟩
  have hw2 := h2.2.size
  obtain ⟨g, c2, rfl, hg, hgl, hat⟩ := h2.1.at_ (by rw [by2_len]; omega)
  have H2 := Lib.hid h2
  have HA := Lib.hid hat
  clear h2 hat
  rw [by2_len]
  go_wp2_with (at_builtin; refine wpList_append_own _ rfl _ _ 58 rfl w.heap.size 5 i0 _ 1 1 Try.underlying58 HZ.out.1 HZ.out.2.1 HZ.out.2.2.1 HZ.out.2.2.2 rfl (by decide) _ 2 (u8s (by2 (x / 65536))) rfl (H1.out.1.later H2.out.2) ⟨g, 0, none⟩ 2 c2 (u8s (by2 (x % 65536))) rfl rfl HA.out u8s_one ?c3 ?c4 ?c5 ?_)
  case c3 => unfold maxLen; omega
  case c4 => omega
  case c5 => omega
  intro v' w3 hown hgrow _
  have R := stepB (ys := by2 (x % 65536)) (w := w) (H1.out.1.later H2.out.2) (H1.out.2.trans (H2.out.2.mono hw1)) (by omega) rfl hown hgrow
  have e4 : by2 (x / 65536) ++ by2 (x % 65536) = by4 x := by
    unfold by2 by4
    simp
    omega
  rw [e4] at R
  have HR := Lib.hid R
  clear R hown hgrow
  go_wp2
  go_ret
  exact ⟨_, rfl, HR.out⟩

theorem OwnB.more {w : World} {B : Nat} {v : Value} {zs : List Int} (h : OwnB w B v zs) (o : Obj) : OwnB (w.alloc o) B v zs := World.ownsRow.alloc h o
theorem cells2_new (w : World) (t : TypeId) (x y : Value) : ∀ j u, [x, y][j]? = some u → (w.alloc (.cells #[x, y] t)).cell? ((⟨w.heap.size, 0, none⟩ : Addr).add j) = some u := cells2 (heap_alloc_new w _)
theorem sz_more {w W : World} {k : Nat} (o : Obj) (h : w.heap.size + k ≤ W.heap.size) : w.heap.size + k ≤ (W.alloc o).heap.size := by simp; omega
end Go.Proofs.Ytikceomnkkpljaa
