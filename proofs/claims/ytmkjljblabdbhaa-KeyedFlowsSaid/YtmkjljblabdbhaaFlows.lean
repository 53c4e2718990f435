/-
  The walks of a flow's bytes: harrierref01.Four, flow.Bytes, harrierref14.Bytes. No condition.
-/
import Derived.Test.YtmkjljblabdbhaaOctets
import Derived.Deep.MidRow
import Derived.Deep.RegionHeld3
import Derived.Deep.DeepCutAuto
import Derived.Deep.AppendLies
import Derived.Deep.LoopGhost
namespace Go.Proofs.Ytmkjljblabdbhaa
open Go.ChangeShapes Go.WideShapes Go.ChangeAt Go.RowKit
set_option linter.unusedVariables false
set_option linter.unusedSimpArgs false

theorem OwnB.mono {w : World} {B B' : Nat} {v : Value} {zs : List Int} (h : OwnB w B v zs) (hb : B' ≤ B) : OwnB w B' v zs :=
  ⟨h.1, h.2.imp id fun ⟨g, cap, cur, h1, h2, h3⟩ => ⟨g, cap, cur, h1, Nat.le_trans hb h2, h3⟩⟩
def At (w : World) (p : Addr) (zs : List Int) : Prop := ∀ j u, (u8s zs)[j]? = some u → w.cell? (p.add j) = some u
theorem At.later {w v : World} {p : Addr} {zs : List Int} (h : At w p zs) (hp : p.block < w.heap.size) (hb : Below w.heap.size w v) : At v p zs := fun j u hj => (hb.cell (p := p.add j) (by unfold Addr.add; split <;> exact hp)).trans (h j u hj)
theorem OwnB.at_ {w : World} {B : Nat} {v : Value} {zs : List Int} (h : OwnB w B v zs) (hn : 0 < zs.length) : ∃ g c, v = .slice (some ⟨g, 0, none⟩) zs.length c ∧ B ≤ g ∧ g < w.heap.size ∧ At w ⟨g, 0, none⟩ zs := by
  rcases h.2 with ⟨_, h0⟩ | ⟨g, cap, cur, rfl, hg, hh, hcap, hmax, hsz, htk⟩
  · omega
  refine ⟨g, cap, rfl, hg, lt_of_block hh, fun j u hj => ?_⟩
  rw [Addr.add_mid, Nat.zero_add, cell_of_row w g j cur 5 (0, 0) hh]
  have hl : j < zs.length := by
    have := (List.getElem?_eq_some_iff.1 hj).1
    simpa [u8s] using this
  rw [← htk, List.getElem?_take, if_pos (by omega)] at hj
  simpa using hj
theorem u8s_one {zs : List Int} : ∀ u ∈ u8s zs, u.oneCell' = true := by
  intro u hu
  simp only [u8s, List.mem_map] at hu
  obtain ⟨z, _, rfl⟩ := hu
  rfl
theorem by2_len (x : Int) : (by2 x).length = 2 := rfl

theorem put16_full (g o n : Nat) (zs : List Int) (x : Int) (w : World) (hn : zs.length = n) (hg : g < w.heap.size) (h : At w ⟨g, o, none⟩ zs) (hz : zs.length ≤ 1000) (hx : -9223372036854775808 ≤ x ∧ x ≤ 9223372036854775807) :
    Calls Try.prog 28 #[.slice (some ⟨g, o, none⟩) n n, .int .i64 x] w fun e w' => ∃ v', e = .returned v' ∧ OwnB w' w.heap.size v' (zs ++ by2 x) ∧ Below w.heap.size w w' := by
  subst hn
  obtain ⟨i0, hi, hz0, hz1, hz2⟩ := info_parts info5
  have HZ := Lib.hid (And.intro hi (And.intro hz0 (And.intro hz1 hz2)))
  have HH := Lib.hid h
  clear h hi hz0 hz1 hz2
  go_enter Try.func28, Try.ntmps28
  go_wp2_with fail
  refine (two_any x _ hx).mono ?_; rintro e w1 ⟨rfl, h1⟩
  have H1 := Lib.hid h1
  have hw1 := h1.size
  clear h1
  go_wp2_with (at_builtin; refine wpList_append_grows _ rfl _ _ 25 rfl 5 i0 _ 1 1 Try.underlying25 HZ.out.1 HZ.out.2.1 HZ.out.2.2.1 HZ.out.2.2.2 rfl (by decide) _ zs.length zs.length (u8s zs) rfl (by simp) ?c0 ?c6 ⟨w1.heap.size + 1, 0, none⟩ 2 2 [.int .u8 (x / 256 % 256), .int .u8 (x % 256)] rfl rfl ?c1 ?c2 ?c7 ?c3 ?c4 ?_)
  case c0 => simp [u8s]
  case c6 =>
    intro b hb j u hj
    injection hb with hb
    subst hb
    exact (HH.out.later (by exact hg) ((H1.out.alloc (by omega) _).alloc (by simp; omega) _)) j u hj
  case c1 => exact cells2 (by simpa using heap_alloc_new (w1.alloc _) _)
  case c2 => intro u hu; simp at hu; rcases hu with rfl | rfl <;> rfl
  case c7 => omega
  case c3 => unfold maxLen; omega
  case c4 => omega
  intro v' w2 hown hgrow
  have hB : w.heap.size ≤ (w1.alloc (.cells #[.int .u8 (x / 256 % 256), .int .u8 (x % 256)] 64) |>.alloc (.cells #[.int .u8 (x / 256 % 256), .int .u8 (x % 256)] 5)).heap.size := by simp; omega
  have R : OwnB w2 w.heap.size v' (zs ++ by2 x) ∧ Below w.heap.size w w2 := by
    refine ⟨OwnB.mono (B := w1.heap.size + 1 + 1) ?_ (by omega), ((H1.out.alloc (by omega) _).alloc (by simp; omega) _).grown hgrow hB (fun k hk => by cases hk)⟩
    unfold OwnB u8s
    rw [List.length_append, List.map_append]
    exact hown
  have HR := Lib.hid R
  clear R hown hgrow
  go_wp2
  go_ret
  exact ⟨_, rfl, HR.out⟩

theorem four_any (x : Int) (w : World) (hx : 0 ≤ x ∧ x ≤ 4294967295) :
    Calls Try.prog 24 #[.int .u32 x] w fun e w' => ∃ v', e = .returned v' ∧ OwnB w' w.heap.size v' (by4 x) ∧ Below w.heap.size w w' := by
  obtain ⟨i0, hi, hz0, hz1, hz2⟩ := info_parts info5
  have HZ := Lib.hid (And.intro hi (And.intro hz0 (And.intro hz1 hz2)))
  clear hi hz0 hz1 hz2
  go_enter Try.func24, Try.ntmps24
  go_wp2_with fail
  refine (refTwo_any (x / 65536) _ (by omega)).mono ?_; rintro e w1 ⟨v1, rfl, h1⟩
  have H1 := Lib.hid h1
  have hw1 := h1.2.size
  obtain ⟨A1, c1, rfl⟩ := h1.1.form
  clear h1
  rw [by2_len] at H1
  go_wp2_with fail
  refine (refTwo_any (x % 65536) _ (by omega)).mono ?_; rintro e w2 ⟨v2, rfl, h2⟩
  have hw2 := h2.2.size
  obtain ⟨g, c2, rfl, hg, hgl, hat⟩ := h2.1.at_ (by rw [by2_len]; omega)
  have H2 := Lib.hid h2
  have HA := Lib.hid hat
  clear h2 hat
  rw [by2_len]
  go_wp2_with (at_builtin; refine wpList_append_own _ rfl _ _ 25 rfl w.heap.size 5 i0 _ 1 1 Try.underlying25 HZ.out.1 HZ.out.2.1 HZ.out.2.2.1 HZ.out.2.2.2 rfl (by decide) _ 2 (u8s (by2 (x / 65536))) rfl (H1.out.1.later H2.out.2) ⟨g, 0, none⟩ 2 c2 (u8s (by2 (x % 65536))) rfl rfl HA.out u8s_one ?c3 ?c4 ?c5 ?_)
  case c3 => unfold maxLen; omega
  case c4 => omega
  case c5 => omega
  intro v' w3 hown hgrow _
  have R := stepB (ys := by2 (x % 65536)) (w := w) (H1.out.1.later H2.out.2) (H1.out.2.trans (H2.out.2.mono hw1)) (by omega) rfl hown hgrow
  have e4 : by2 (x / 65536) ++ by2 (x % 65536) = by4 x := by
    unfold by2 by4
    simp
    omega
  rw [e4] at R
  have HR := Lib.hid R
  clear R hown hgrow
  go_wp2
  go_ret
  exact ⟨_, rfl, HR.out⟩

def FlowIs (cs : Array Value) (src : List Int) (sp : Int) (dst : List Int) (dp : Int) : Prop :=
  cs.toList = u8s src ++ (.int .i64 sp :: (u8s dst ++ [.int .i64 dp])) ∧ src.length = 16 ∧ dst.length = 16 ∧ Bytes src ∧ Bytes dst ∧ (-9223372036854775808 ≤ sp ∧ sp ≤ 9223372036854775807) ∧ (-9223372036854775808 ≤ dp ∧ dp ≤ 9223372036854775807)
def fbytes (src : List Int) (sp : Int) (dst : List Int) (dp : Int) : List Int := src ++ by2 sp ++ dst ++ by2 dp
section
variable {w : World} {g : Nat} {cs : Array Value} {src dst : List Int} {sp dp : Int}
theorem FlowIs.sp_ (h : FlowIs cs src sp dst dp) (hb : Blk w g 35 cs) : w.cell? ⟨g, 16, none⟩ = some (.int .i64 sp) := by
  rw [hb.cell, ← Array.getElem?_toList, h.1, List.getElem?_append_right (by simp [u8s, h.2.1])]
  simp [u8s, h.2.1]
theorem FlowIs.dp_ (h : FlowIs cs src sp dst dp) (hb : Blk w g 35 cs) : w.cell? ⟨g, 33, none⟩ = some (.int .i64 dp) := by
  rw [hb.cell, ← Array.getElem?_toList, h.1, List.getElem?_append_right (by simp [u8s, h.2.1])]
  simp only [u8s, List.length_map, h.2.1]
  rw [List.getElem?_cons_succ, List.getElem?_append_right (by simp [h.2.2.1])]
  simp [h.2.2.1]
theorem FlowIs.src_ (h : FlowIs cs src sp dst dp) (hb : Blk w g 35 cs) : At w ⟨g, 0, none⟩ src := by
  intro j u hj
  have hl := (List.getElem?_eq_some_iff.1 hj).1
  rw [Addr.add_mid, Nat.zero_add, hb.cell, ← Array.getElem?_toList, h.1, List.getElem?_append_left hl, hj]
theorem FlowIs.dst_ (h : FlowIs cs src sp dst dp) (hb : Blk w g 35 cs) : At w ⟨g, 17, none⟩ dst := by
  intro j u hj
  have hl := (List.getElem?_eq_some_iff.1 hj).1
  have hs : (u8s src).length = 16 := by simp [u8s, h.2.1]
  rw [Addr.add_mid, hb.cell, ← Array.getElem?_toList, h.1, List.getElem?_append_right (by omega), hs, show 17 + j - 16 = j + 1 by omega, List.getElem?_cons_succ, List.getElem?_append_left hl, hj]
end

theorem bytes_any (cs : Array Value) (src dst : List Int) (sp dp : Int) (w : World) (h : FlowIs cs src sp dst dp) :
    Calls Try.prog 21 #[.agg cs] w fun e w' => ∃ v', e = .returned v' ∧ OwnB w' w.heap.size v' (fbytes src sp dst dp) ∧ Below w.heap.size w w' := by
  obtain ⟨i0, hi, hz0, hz1, hz2⟩ := info_parts info5
  have HZ := Lib.hid (And.intro hi (And.intro hz0 (And.intro hz1 hz2)))
  have HH := Lib.hid h
  clear h hi hz0 hz1 hz2
  go_enter Try.func21, Try.ntmps21
  have hb : Blk (w.alloc (.cells cs 35)) w.heap.size 35 cs := Blk.new _ _ _
  have x0 := HH.out.sp_ hb
  have H0 := Lib.hid hb
  have HB0 : Hid (Below w.heap.size w (w.alloc (.cells cs 35))) := (Below.refl _ _).alloc (Nat.le_refl _) _
  clear hb
  have hsl : src.length = 16 := HH.out.2.1
  have hdl : dst.length = 16 := HH.out.2.2.1
  go_upto_region 1 with fail
  go_cut [3] (fun s3 wx => ∃ A c, s3 = .slice A 18 c ∧ Hid (OwnB wx (w.heap.size + 1) (.slice A 18 c) (src ++ by2 sp) ∧ Below (w.heap.size + 1) (w.alloc (.cells cs 35)) wx))
  case first =>
    go_region_held3 (fun w' => w'.cell? ⟨w.heap.size, 16, none⟩ = some (.int .i64 sp)) (go_keep)
      (first
        | (go_at_call 28; refine (put16_full w.heap.size 0 16 src sp _ hsl (by simp) (HH.out.src_ (Blk.draw H0.out)) (by omega) HH.out.2.2.2.2.2.1).mono ?_; rintro e w' ⟨v', rfl, hv'⟩; have hv16 : w'.cell? ⟨w.heap.size, 16, none⟩ = some (.int .i64 sp) := (hv'.2.cell (by simp)).trans x0))
    have h18 : (src ++ by2 sp).length = 18 := by rw [List.length_append, hsl]; rfl
    obtain ⟨A, c, rfl⟩ := hv'.1.form
    rw [h18] at hv' ⊢
    go_wp2_with fail
    go_meet
    exact ⟨A, c, rfl, OwnB.mono (B' := w.heap.size + 1) hv'.1 (by simp), ((Below.refl _ _).drew.trans (hv'.2.mono (B' := w.heap.size + 1) (by simp)))⟩
  case rest =>
    obtain ⟨A, c, rfl, HI⟩ := hcut
    have h18 : (src ++ by2 sp).length = 18 := by rw [List.length_append, hsl]; rfl
    have x1 : wc.cell? ⟨w.heap.size, 33, none⟩ = some (.int .i64 dp) := (HI.out.2.cell (by simp)).trans (HH.out.dp_ H0.out)
    have HO : Hid (wc.drew.ownsRow (w.heap.size + 1) 5 1 (.slice A 18 c) 18 (u8s (src ++ by2 sp))) := by have := HI.out.1; unfold OwnB at this; rw [h18] at this; exact this
    have hws : w.heap.size + 1 ≤ wc.drew.heap.size := by have := HI.out.2.size; simpa using this
    go_upto_region 2 with fail
    go_region_held3 (fun w' => w'.cell? ⟨w.heap.size, 33, none⟩ = some (.int .i64 dp)) (go_keep)
      (first
        | (refine step_append_lies _ rfl _ _ 25 rfl (w.heap.size + 1) 5 i0 _ 1 1 Try.underlying25 HZ.out.1 HZ.out.2.1 HZ.out.2.2.1 HZ.out.2.2.2 rfl (by decide) (.slice A 18 c) 18 (u8s (src ++ by2 sp)) rfl HO.out ⟨w.heap.size, 17, none⟩ 16 16 (u8s dst) rfl (by simp [u8s, hdl]) (HH.out.dst_ (H0.out.below HI.out.2.drew (by simp))) u8s_one (by omega) (by unfold maxLen; omega) (by omega) hws _ rfl ?_; intro g cap w' hown hgrow hblk hlt; have R := Lib.hid (stepB (wr := wc.drew) (zs := src ++ by2 sp) (ys := dst) HI.out.1 HI.out.2.drew hws hdl (by rw [h18]; exact hown) hgrow); clear hown hgrow; have h33 : w'.cell? ⟨w.heap.size, 33, none⟩ = some (.int .i64 dp) := (R.out.2.cell (by simp)).trans (HH.out.dp_ H0.out))
        | (go_at_call 28; refine (put16_any (w.heap.size + 1) _ (src ++ by2 sp ++ dst) dp _ R.out.1 (by have := R.out.2.size; simp at this; exact this) (by simp [hsl, hdl, by2_len]) HH.out.2.2.2.2.2.2).mono ?_; rintro e w4 ⟨v', rfl, hv'⟩; have h33' : w4.cell? ⟨w.heap.size, 33, none⟩ = some (.int .i64 dp) := (hv'.2.cell (by simp)).trans h33))
    go_wp2
    go_ret
    refine ⟨_, rfl, OwnB.mono hv'.1 (by omega), HB0.out.trans ((R.out.2.trans hv'.2).mono (by omega))⟩

theorem At.cell0 {w : World} {g o : Nat} {zs : List Int} {u : Value} (h : At w ⟨g, o, none⟩ zs) {i : Nat} (hi : (u8s zs)[i]? = some u) : w.cell? ⟨g, o + i, none⟩ = some u := by
  have := h i u hi
  rwa [Addr.add_mid] at this
theorem getB {zs : List Int} {i : Nat} (hi : i < zs.length) : (u8s zs)[i]? = some (.int .u8 (zs.getD i 0)) := by
  simp [u8s, hi]
theorem takeB {zs : List Int} {i : Nat} (hi : i < zs.length) : zs.take (i + 1) = zs.take i ++ [zs.getD i 0] := by
  rw [List.take_add_one, List.getD_eq_getElem?_getD, List.getElem?_eq_getElem hi]
  rfl
theorem takeB_len {zs : List Int} {i : Nat} (hi : i ≤ zs.length) : (zs.take i).length = i := by rw [List.length_take]; omega

set_option maxRecDepth 100000 in
theorem refBytes_any (cs : Array Value) (src dst : List Int) (sp dp : Int) (w : World) (h : FlowIs cs src sp dst dp) :
    Calls Try.prog 22 #[.agg cs] w fun e w' => ∃ v', e = .returned v' ∧ OwnB w' w.heap.size v' (fbytes src sp dst dp) ∧ Below w.heap.size w w' := by
  obtain ⟨i0, hi, hz0, hz1, hz2⟩ := info_parts info5
  have HZ := Lib.hid (And.intro hi (And.intro hz0 (And.intro hz1 hz2)))
  have HH := Lib.hid h
  clear h hi hz0 hz1 hz2
  have hb : Blk (w.alloc (.cells cs 35)) w.heap.size 35 cs := Blk.new _ _ _
  have H0 := Lib.hid hb
  have HB0 : Hid (Below w.heap.size w (w.alloc (.cells cs 35))) := (Below.refl _ _).alloc (Nat.le_refl _) _
  clear hb
  go_enter Try.func22, Try.ntmps22
  go_wp2_with fail
  have hsl : src.length = 16 := HH.out.2.1
  have hdl : dst.length = 16 := HH.out.2.2.1
  go_loopg [3, 4] 16 (fun gk s3 s4 wr => ∃ (i c' : Nat) (A' : Option Addr), s3 = .slice A' i c' ∧ s4 = .int .i64 i ∧ i + gk = 16 ∧ Hid (OwnB wr (w.heap.size + 1) (.slice A' i c') (src.take i) ∧ Below (w.heap.size + 1) (w.alloc (.cells cs 35)) wr))
  case atStart => exact ⟨0, 0, none, rfl, rfl, by omega, OwnB.nil _ _, Below.refl _ _⟩
  case round =>
    obtain ⟨i, c', A', rfl, rfl, hik, HI⟩ := hrel
    have hB1 : w.heap.size + 1 ≤ wr.heap.size := by have := HI.out.2.size; simpa using this
    by_cases hlt : i < 16
    · obtain ⟨z, hz⟩ : ∃ z, src.getD i 0 = z := ⟨_, rfl⟩
      have x0 : wr.cell? ⟨w.heap.size, i, none⟩ = some (.int .u8 z) := hz ▸ (HI.out.2.cell (by simp)).trans (by have := (HH.out.src_ H0.out).cell0 (getB (i := i) (by omega)); rwa [Nat.zero_add] at this)
      have HZ2 := Lib.hid hz
      clear hz
      have hlen : (src.take i).length = i := by simp [takeB_len, hsl, hdl, by2_len]; omega
      have HO : Hid (wr.ownsRow (w.heap.size + 1) 5 1 (.slice A' (i) c') (i) (u8s (src.take i))) := by have := HI.out.1; unfold OwnB at this; rw [hlen] at this; exact this
      have HLEN := Lib.hid hlen
      clear hlen
      go_wp2_with (at_builtin; refine wpList_append_own _ rfl _ _ 25 rfl (w.heap.size + 1) 5 i0 _ 1 1 Try.underlying25 HZ.out.1 HZ.out.2.1 HZ.out.2.2.1 HZ.out.2.2.2 rfl (by decide) _ (i) (u8s (src.take i)) rfl (World.ownsRow.alloc HO.out _) ⟨wr.heap.size, 0, none⟩ 1 1 [.int .u8 z] rfl rfl ?c1 ?c2 ?c3 ?c4 ?c5 ?_)
      case c1 => exact cell1 (by simpa using heap_alloc_new wr _)
      case c2 => intro u hu; simp at hu; subst hu; rfl
      case c3 => unfold maxLen; omega
      case c4 => omega
      case c5 => simp; omega
      intro v' w1 hown hgrow _
      have R := stepB (ys := [z]) (w := w.alloc (.cells cs 35)) (HI.out.1.alloc _) (HI.out.2.alloc hB1 _) (by simp; omega) rfl (by rw [HLEN.out]; exact hown) hgrow
      have e1 : (src.take i) ++ [z] = src.take (i + 1) := by rw [takeB (by omega), HZ2.out]
      rw [e1] at R
      obtain ⟨A2, c2, hv⟩ := R.1.form
      have e2 : (src.take (i + 1)).length = i + 1 := by simp [takeB_len, hsl, hdl, by2_len]; omega
      rw [e2] at hv
      rw [hv] at R ⊢
      have HR := Lib.hid R
      clear R hown hgrow hv e1 e2
      go_wp2
      go_roundg (gk - 1)
      case rel => exact ⟨i + 1, c2, A2, rfl, by go_num, by omega, HR.out⟩
      case measure => omega
    · obtain rfl : i = 16 := by omega
      have x0 : wr.cell? ⟨w.heap.size, 16, none⟩ = some (.int .i64 sp) := (HI.out.2.cell (by simp)).trans (HH.out.sp_ H0.out)
      have HS : Hid (src.take 16 = src) := List.take_of_length_le (by omega)
      have HO : Hid (wr.ownsRow (w.heap.size + 1) 5 1 (.slice A' 16 c') 16 (u8s src)) := by have := HI.out.1; unfold OwnB at this; rw [HS.out, hsl] at this; exact this
      go_wp2_with fail
      refine (refTwo_any sp _ HH.out.2.2.2.2.2.1).mono ?_; rintro e w1 ⟨v1, rfl, h1⟩
      obtain ⟨g, c2, rfl, hg, hgl, hat⟩ := h1.1.at_ (by rw [by2_len]; omega)
      have hw1 := h1.2.size
      have H1 := Lib.hid h1
      have HA := Lib.hid hat
      clear h1 hat
      rw [by2_len]
      have HO1 : Hid (w1.ownsRow (w.heap.size + 1) 5 1 (.slice A' 16 c') 16 (u8s src)) := by
        have := OwnB.later (zs := src) (B := w.heap.size + 1) (x := .slice A' 16 c') (by unfold OwnB; rw [hsl]; exact HO.out) H1.out.2
        unfold OwnB at this
        rw [hsl] at this
        exact this
      go_wp2_with (at_builtin; refine wpList_append_own _ rfl _ _ 25 rfl (w.heap.size + 1) 5 i0 _ 1 1 Try.underlying25 HZ.out.1 HZ.out.2.1 HZ.out.2.2.1 HZ.out.2.2.2 rfl (by decide) _ 16 (u8s src) rfl HO1.out ⟨g, 0, none⟩ 2 c2 (u8s (by2 sp)) rfl rfl HA.out u8s_one ?c3 ?c4 ?c5 ?_)
      case c3 => unfold maxLen; omega
      case c4 => omega
      case c5 => omega
      intro v' w3 hown hgrow _
      have R := stepB (zs := src) (ys := by2 sp) (w := w.alloc (.cells cs 35)) (v := .slice A' 16 c') (by unfold OwnB; rw [hsl]; exact HO1.out) (HI.out.2.trans (H1.out.2.mono hB1)) (by omega) rfl (by rw [hsl]; exact hown) hgrow
      have h18 : (src ++ by2 sp).length = 18 := by rw [List.length_append, hsl]; rfl
      obtain ⟨A3, c3, hv⟩ := R.1.form
      rw [h18] at hv
      rw [hv] at R ⊢
      have HR3 := Lib.hid R
      clear R hown hgrow hv
      go_wp2_with fail
      go_loopg [3, 5] 16 (fun gk s3 s5 wr => ∃ (i c' : Nat) (A' : Option Addr), s3 = .slice A' (18 + i) c' ∧ s5 = .int .i64 i ∧ i + gk = 16 ∧ Hid (OwnB wr (w.heap.size + 1) (.slice A' (18 + i) c') (src ++ by2 sp ++ dst.take i) ∧ Below (w.heap.size + 1) (w.alloc (.cells cs 35)) wr))
      case atStart => exact ⟨0, _, _, rfl, rfl, by omega, by unfold Hid; have := HR3.out; simpa using this⟩
      case round =>
        clear hB1
        obtain ⟨i, c', A', rfl, rfl, hik, HI⟩ := hrel
        have hB1 : w.heap.size + 1 ≤ wr.heap.size := by have := HI.out.2.size; simpa using this
        by_cases hlt : i < 16
        · obtain ⟨z, hz⟩ : ∃ z, dst.getD i 0 = z := ⟨_, rfl⟩
          have x0 : wr.cell? ⟨w.heap.size, 17 + i, none⟩ = some (.int .u8 z) := hz ▸ (HI.out.2.cell (by simp)).trans ((HH.out.dst_ H0.out).cell0 (getB (i := i) (by omega)) )
          have HZ2 := Lib.hid hz
          clear hz
          have hlen : (src ++ by2 sp ++ dst.take i).length = 18 + i := by simp [takeB_len, hsl, hdl, by2_len]; omega
          have HO : Hid (wr.ownsRow (w.heap.size + 1) 5 1 (.slice A' (18 + i) c') (18 + i) (u8s (src ++ by2 sp ++ dst.take i))) := by have := HI.out.1; unfold OwnB at this; rw [hlen] at this; exact this
          have HLEN := Lib.hid hlen
          clear hlen
          go_wp2_with (at_builtin; refine wpList_append_own _ rfl _ _ 25 rfl (w.heap.size + 1) 5 i0 _ 1 1 Try.underlying25 HZ.out.1 HZ.out.2.1 HZ.out.2.2.1 HZ.out.2.2.2 rfl (by decide) _ (18 + i) (u8s (src ++ by2 sp ++ dst.take i)) rfl (World.ownsRow.alloc HO.out _) ⟨wr.heap.size, 0, none⟩ 1 1 [.int .u8 z] rfl rfl ?c1 ?c2 ?c3 ?c4 ?c5 ?_)
          case c1 => exact cell1 (by simpa using heap_alloc_new wr _)
          case c2 => intro u hu; simp at hu; subst hu; rfl
          case c3 => unfold maxLen; omega
          case c4 => omega
          case c5 => simp; omega
          intro v' w1 hown hgrow _
          have R := stepB (ys := [z]) (w := w.alloc (.cells cs 35)) (HI.out.1.alloc _) (HI.out.2.alloc hB1 _) (by simp; omega) rfl (by rw [HLEN.out, List.append_assoc]; exact hown) hgrow
          have e1 : (src ++ by2 sp ++ dst.take i) ++ [z] = src ++ by2 sp ++ dst.take (i + 1) := by rw [takeB (by omega), HZ2.out, List.append_assoc]
          rw [e1] at R
          obtain ⟨A2, c2, hv⟩ := R.1.form
          have e2 : (src ++ by2 sp ++ dst.take (i + 1)).length = 18 + (i + 1) := by simp [takeB_len, hsl, hdl, by2_len]; omega
          rw [e2] at hv
          rw [hv] at R ⊢
          have HR := Lib.hid R
          clear R hown hgrow hv e1 e2
          go_wp2
          go_roundg (gk - 1)
          case rel => exact ⟨i + 1, c2, A2, rfl, by go_num, by omega, HR.out⟩
          case measure => omega
        · obtain rfl : i = 16 := by omega
          have x0 : wr.cell? ⟨w.heap.size, 33, none⟩ = some (.int .i64 dp) := (HI.out.2.cell (by simp)).trans (HH.out.dp_ H0.out)
          have HS2 : Hid (dst.take 16 = dst) := List.take_of_length_le (by omega)
          have h34 : (src ++ by2 sp ++ dst).length = 34 := by rw [List.length_append, h18, hdl]
          have HO2 : Hid (OwnB wr (w.heap.size + 1) (.slice A' 34 c') (src ++ by2 sp ++ dst)) := by have := HI.out.1; rw [HS2.out] at this; exact this
          go_wp2_with fail
          refine (refTwo_any dp _ HH.out.2.2.2.2.2.2).mono ?_; rintro e w5 ⟨v5, rfl, h5⟩
          obtain ⟨g5, c5, rfl, hg5, hgl5, hat⟩ := h5.1.at_ (by rw [by2_len]; omega)
          have hw5 := h5.2.size
          have H5 := Lib.hid h5
          have HA5 := Lib.hid hat
          clear h5 hat
          rw [by2_len]
          have HO5 : Hid (w5.ownsRow (w.heap.size + 1) 5 1 (.slice A' 34 c') 34 (u8s (src ++ by2 sp ++ dst))) := by
            have := HO2.out.later H5.out.2
            unfold OwnB at this
            rw [h34] at this
            exact this
          go_wp2_with (at_builtin; refine wpList_append_own _ rfl _ _ 25 rfl (w.heap.size + 1) 5 i0 _ 1 1 Try.underlying25 HZ.out.1 HZ.out.2.1 HZ.out.2.2.1 HZ.out.2.2.2 rfl (by decide) _ 34 (u8s (src ++ by2 sp ++ dst)) rfl HO5.out ⟨g5, 0, none⟩ 2 c5 (u8s (by2 dp)) rfl rfl HA5.out u8s_one ?c3 ?c4 ?c5 ?_)
          case c3 => unfold maxLen; omega
          case c4 => omega
          case c5 => omega
          intro v' w6 hown hgrow _
          have R := stepB (zs := src ++ by2 sp ++ dst) (ys := by2 dp) (w := w.alloc (.cells cs 35)) (v := .slice A' 34 c') (by unfold OwnB; rw [h34]; exact HO5.out) (HI.out.2.trans (H5.out.2.mono hB1)) (by omega) rfl (by rw [h34, List.append_assoc]; exact hown) hgrow
          have HR := Lib.hid R
          clear R hown hgrow
          go_wp2
          go_ret
          exact ⟨_, rfl, OwnB.mono (B' := w.heap.size) HR.out.1 (by omega), HB0.out.trans (HR.out.2.mono (B' := w.heap.size) (by omega))⟩
end Go.Proofs.Ytmkjljblabdbhaa
