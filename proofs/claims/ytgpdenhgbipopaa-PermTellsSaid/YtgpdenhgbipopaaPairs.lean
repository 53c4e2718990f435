/-
  The walks of keyed.Pair and the reference's. No condition.
-/
import Derived.Test.YtgpdenhgbipopaaOctets
import Derived.Deep.MidRow
import Derived.Deep.RegionHeld3
import Derived.Deep.AppendLies
namespace Go.Proofs.Ytgpdenhgbipopaa
open Go.ChangeShapes Go.WideShapes Go.ChangeAt Go.RowKit
set_option linter.unusedVariables false
set_option linter.unusedSimpArgs false

def At (w : World) (p : Addr) (zs : List Int) : Prop := ∀ j u, (u8s zs)[j]? = some u → w.cell? (p.add j) = some u
theorem by2_len (x : Int) : (by2 x).length = 2 := rfl

theorem OwnB.at_ {w : World} {B : Nat} {v : Value} {zs : List Int} (h : OwnB w B v zs) (hn : 0 < zs.length) : ∃ g c, v = .slice (some ⟨g, 0, none⟩) zs.length c ∧ B ≤ g ∧ g < w.heap.size ∧ At w ⟨g, 0, none⟩ zs := by
  rcases h.2 with ⟨_, h0⟩ | ⟨g, cap, cur, rfl, hg, hh, hcap, hmax, hsz, htk⟩
  · omega
  refine ⟨g, cap, rfl, hg, lt_of_block hh, fun j u hj => ?_⟩
  rw [Addr.add_mid, Nat.zero_add, cell_of_row w g j cur 5 (0, 0) hh]
  have hl : j < zs.length := by
    have := (List.getElem?_eq_some_iff.1 hj).1
    simpa [u8s] using this
  rw [← htk, List.getElem?_take, if_pos (by omega)] at hj
  simpa using hj
theorem u8s_one {zs : List Int} : ∀ u ∈ u8s zs, u.oneCell' = true := by
  intro u hu
  simp only [u8s, List.mem_map] at hu
  obtain ⟨z, _, rfl⟩ := hu
  rfl
theorem four_any (x : Int) (w : World) (hx : 0 ≤ x ∧ x ≤ 4294967295) :
    Calls Try.prog 24 #[.int .u32 x] w fun e w' => ∃ v', e = .returned v' ∧ OwnB w' w.heap.size v' (by4 x) ∧ Below w.heap.size w w' := by
  obtain ⟨i0, hi, hz0, hz1, hz2⟩ := info_parts info5
  have HZ := Lib.hid (And.intro hi (And.intro hz0 (And.intro hz1 hz2)))
  clear hi hz0 hz1 hz2
  go_enter Try.func24, Try.ntmps24
  go_wp2_with fail
  refine (refTwo_any (x / 65536) _ (by omega)).mono ?_; rintro e w1 ⟨v1, rfl, h1⟩
  have H1 := Lib.hid h1
  have hw1 := h1.2.size
  obtain ⟨A1, c1, rfl⟩ := h1.1.form
  clear h1
  rw [by2_len] at H1
  go_wp2_with fail
  refine (refTwo_any (x % 65536) _ (by omega)).mono ?_; rintro e w2 ⟨v2, rfl, h2⟩
  have hw2 := h2.2.size
  obtain ⟨g, c2, rfl, hg, hgl, hat⟩ := h2.1.at_ (by rw [by2_len]; omega)
  have H2 := Lib.hid h2
  have HA := Lib.hid hat
  clear h2 hat
  rw [by2_len]
  go_wp2_with (at_builtin; refine wpList_append_own _ rfl _ _ 43 rfl w.heap.size 5 i0 _ 1 1 Try.underlying43 HZ.out.1 HZ.out.2.1 HZ.out.2.2.1 HZ.out.2.2.2 rfl (by decide) _ 2 (u8s (by2 (x / 65536))) rfl (H1.out.1.later H2.out.2) ⟨g, 0, none⟩ 2 c2 (u8s (by2 (x % 65536))) rfl rfl HA.out u8s_one ?c3 ?c4 ?c5 ?_)
  case c3 => unfold maxLen; omega
  case c4 => omega
  case c5 => omega
  intro v' w3 hown hgrow _
  have R := stepB (ys := by2 (x % 65536)) (w := w) (H1.out.1.later H2.out.2) (H1.out.2.trans (H2.out.2.mono hw1)) (by omega) rfl hown hgrow
  have e4 : by2 (x / 65536) ++ by2 (x % 65536) = by4 x := by
    unfold by2 by4
    simp
    omega
  rw [e4] at R
  have HR := Lib.hid R
  clear R hown hgrow
  go_wp2
  go_ret
  exact ⟨_, rfl, HR.out⟩

theorem size24 : (Try.prog.info? 24).map (·.size) = some 2 := by kernel_rfl
theorem size27 : (Try.prog.info? 27).map (·.size) = some 2 := by kernel_rfl
theorem var_of {t g n : Nat} {cs : Array Value} {d : TypeDesc} (hu : Try.prog.underlying t = some d) (hd : d.isRow = true) (hn : (Try.prog.info? t).map (·.size) = some n) (hl : cs.toList.length = n) (W : World) (hr : W.rangeAt g 0 cs.toList) : (loadVar t ⟨g, 0, none⟩).run Try.prog W = .ok (.agg cs) W := by
  have := run_loadVar_mid (P := Try.prog) W g 0 t cs.toList _ hr hu hd (by rw [hn, hl])
  simpa using this
theorem range_of {w : World} {g t : Nat} {cs : Array Value} (h : Blk w g t cs) : w.rangeAt g 0 cs.toList := by
  intro j v hj
  rw [Nat.zero_add, h.cell, ← Array.getElem?_toList, hj]
theorem sum_range (x y : Int) (bs : List Int) : 0 ≤ sumI x y bs ∧ sumI x y bs ≤ 18446744073709551615 := by
  unfold sumI xr
  exact wf_u64 (wf_bits _ _ _ _)
theorem official_any (w : World) : Calls Try.prog 18 #[] w fun e w' => e = .returned (.agg #[.int .u64 506097522914230528, .int .u64 1084818905618843912]) ∧ Below w.heap.size w w' := by
  go_enter Try.func18, Try.ntmps18
  go_wp2
  go_returns
  exact ⟨rfl, (Below.refl w.heap.size w).alloc (Nat.le_refl _) _⟩

def pbytes (a b : Int) : List Int := by4 (IntKind.u32.wrap a) ++ by4 (IntKind.u32.wrap b)
theorem by4_len (x : Int) : (by4 x).length = 4 := rfl
theorem by4_bytes (x : Int) (h : 0 ≤ x ∧ x ≤ 4294967295) : Bytes (by4 x) := by
  intro z hz
  simp [by4] at hz
  omega
theorem range_b {w v : World} {g B : Nat} {l : List Value} (h : w.rangeAt g 0 l) (hg : g < B) (hb : Below B w v) : v.rangeAt g 0 l := fun j u hj => (hb.cell (p := ⟨g, _, none⟩) hg).trans (h j u hj)
theorem u32_rng (a : Int) : 0 ≤ IntKind.u32.wrap a ∧ IntKind.u32.wrap a ≤ 4294967295 := by rw [IntKind.wrap_u32]; omega
theorem pbytes_bytes (a b : Int) : Bytes (pbytes a b) := by
  intro z hz
  simp only [pbytes, List.mem_append] at hz
  rcases hz with hz | hz
  · exact by4_bytes _ (u32_rng _) z hz
  · exact by4_bytes _ (u32_rng _) z hz

attribute [-go_sem] loadVar in
theorem pair_any (x y a b : Int) (w : World) :
    Calls Try.prog 17 #[.agg #[.int .u64 x, .int .u64 y], .int .i64 a, .int .i64 b] w fun e w' => e = .returned (.int .u64 (sumI x y (pbytes a b))) ∧ Below w.heap.size w w' := by
  have x0 : (w.alloc (.cells #[.int .u64 x, .int .u64 y] 24)).rangeAt w.heap.size 0 #[Value.int .u64 x, Value.int .u64 y].toList := range_of (Blk.new w 24 _)
  have v0 : ∀ W : World, W.rangeAt w.heap.size 0 #[Value.int .u64 x, Value.int .u64 y].toList → (loadVar 24 ⟨w.heap.size, 0, none⟩).run Try.prog W = .ok (.agg #[Value.int .u64 x, Value.int .u64 y]) W := fun W hr => var_of Try.underlying24 rfl size24 rfl W hr
  obtain ⟨K, hK⟩ : ∃ K, #[Value.int .u64 x, Value.int .u64 y].toList = K := ⟨_, rfl⟩
  rw [hK] at x0 v0
  have HB0 : Hid (Below w.heap.size w (w.alloc (.cells #[.int .u64 x, .int .u64 y] 24))) := (Below.refl _ _).alloc (Nat.le_refl _) _
  have hwa : (w.alloc (.cells #[.int .u64 x, .int .u64 y] 24)).heap.size = w.heap.size + 1 := by simp
  obtain ⟨wa, hwaE⟩ : ∃ wa, w.alloc (.cells #[.int .u64 x, .int .u64 y] 24) = wa := ⟨_, rfl⟩
  rw [hwaE] at x0 HB0 hwa
  clear hK
  have ra : 0 ≤ IntKind.u32.wrap a ∧ IntKind.u32.wrap a ≤ 4294967295 := u32_rng _
  have rb : 0 ≤ IntKind.u32.wrap b ∧ IntKind.u32.wrap b ≤ 4294967295 := u32_rng _
  have hby := Lib.hid (pbytes_bytes a b)
  unfold pbytes at hby ⊢
  obtain ⟨p, hp⟩ : ∃ p, IntKind.u32.wrap a = p := ⟨_, rfl⟩
  obtain ⟨q, hq⟩ : ∃ q, IntKind.u32.wrap b = q := ⟨_, rfl⟩
  rw [hp] at ra hby ⊢
  rw [hq] at rb hby ⊢
  obtain ⟨P, hP⟩ : ∃ P, by4 p = P := ⟨_, rfl⟩
  obtain ⟨bs, hbs⟩ : ∃ bs, P ++ by4 q = bs := ⟨_, rfl⟩
  have hPl : P.length = 4 := hP ▸ by4_len p
  have hbl : bs.length = 8 := by rw [← hbs, List.length_append, hPl, by4_len]
  rw [hP, hbs] at hby ⊢
  have HP := Lib.hid hP
  have HS := Lib.hid hbs
  clear hP hbs
  go_enter Try.func17, Try.ntmps17
  go_upto_region 1 with fail
  clear hwaE
  go_region_held3 (fun w' => w'.rangeAt w.heap.size 0 K) (first | exact u0 | exact z0 | exact y0 | exact x0)
    (first
      | (go_at_call 22; (fail_if_success (have h9 := hw1)); refine Calls.mono (put32_any (w.heap.size + 1) (.slice none 0 0) [] p wa.drew (OwnB.nil _ _) (by simp; omega) (by simp) ra) ?_; rintro e w1 ⟨v', rfl, hv⟩; rw [List.nil_append, HP.out] at hv; obtain ⟨A, c, rfl⟩ := hv.1.form; rw [hPl] at hv ⊢; have HV := Lib.hid hv; clear hv; have y0 : w1.rangeAt w.heap.size 0 K := range_b (w := wa.drew) x0 (by omega) HV.out.2; have hw1 : w.heap.size + 1 ≤ w1.heap.size := by (have := HV.out.2.size; simp at this; omega))
      | (go_at_call 22; refine Calls.mono (put32_any (w.heap.size + 1) (.slice A 4 c) P q w1 HV.out.1 hw1 (by omega) rb) ?_; rintro e w2 ⟨v2, rfl, hv⟩; rw [HS.out] at hv; obtain ⟨A2, c2, rfl⟩ := hv.1.form; rw [hbl] at hv ⊢; have HV2 := Lib.hid hv; clear hv; have z0 : w2.rangeAt w.heap.size 0 K := range_b y0 (by omega) HV2.out.2; have hw2 := HV2.out.2.size)
      | (go_at_call 21; refine (sum_any x y A2 8 c2 bs w2 ((HV2.out.1.row hby.out (by omega)).2.2) (by omega) (HV2.out.1.row hby.out (by omega)).2.1).mono ?_; rintro e w3 ⟨rfl, h2⟩; have H2 := Lib.hid h2; clear h2; have u0 : w3.rangeAt w.heap.size 0 K := range_b z0 (by omega) H2.out))
  go_wp2
  go_ret
  refine ⟨ret_int rfl, ?_⟩
  have b1 : Below w.heap.size w w1 := HB0.out.trans ((Below.refl _ _).drew.trans (HV.out.2.mono (by omega)))
  have b2 := b1.trans (HV2.out.2.mono (by omega))
  exact b2.trans (H2.out.mono b2.size)
attribute [-go_sem] loadVar in
theorem refPair_any (x y a b : Int) (w : World) :
    Calls Try.prog 19 #[.agg #[.int .u64 x, .int .u64 y], .int .i64 a, .int .i64 b] w fun e w' => e = .returned (.int .u64 (sumI x y (pbytes a b))) ∧ Below w.heap.size w w' := by
  have x0 : (w.alloc (.cells #[.int .u64 x, .int .u64 y] 27)).rangeAt w.heap.size 0 #[Value.int .u64 x, Value.int .u64 y].toList := range_of (Blk.new w 27 _)
  have v0 : ∀ W : World, W.rangeAt w.heap.size 0 #[Value.int .u64 x, Value.int .u64 y].toList → (loadVar 27 ⟨w.heap.size, 0, none⟩).run Try.prog W = .ok (.agg #[Value.int .u64 x, Value.int .u64 y]) W := fun W hr => var_of Try.underlying27 rfl size27 rfl W hr
  obtain ⟨K, hK⟩ : ∃ K, #[Value.int .u64 x, Value.int .u64 y].toList = K := ⟨_, rfl⟩
  rw [hK] at x0 v0
  have HB0 : Hid (Below w.heap.size w (w.alloc (.cells #[.int .u64 x, .int .u64 y] 27))) := (Below.refl _ _).alloc (Nat.le_refl _) _
  have hwa : (w.alloc (.cells #[.int .u64 x, .int .u64 y] 27)).heap.size = w.heap.size + 1 := by simp
  obtain ⟨wa, hwaE⟩ : ∃ wa, w.alloc (.cells #[.int .u64 x, .int .u64 y] 27) = wa := ⟨_, rfl⟩
  rw [hwaE] at x0 HB0 hwa
  clear hK
  have ra : 0 ≤ IntKind.u32.wrap a ∧ IntKind.u32.wrap a ≤ 4294967295 := u32_rng _
  have rb : 0 ≤ IntKind.u32.wrap b ∧ IntKind.u32.wrap b ≤ 4294967295 := u32_rng _
  have hby := Lib.hid (pbytes_bytes a b)
  unfold pbytes at hby ⊢
  obtain ⟨p, hp⟩ : ∃ p, IntKind.u32.wrap a = p := ⟨_, rfl⟩
  obtain ⟨q, hq⟩ : ∃ q, IntKind.u32.wrap b = q := ⟨_, rfl⟩
  rw [hp] at ra hby ⊢
  rw [hq] at rb hby ⊢
  obtain ⟨P, hP⟩ : ∃ P, by4 p = P := ⟨_, rfl⟩
  obtain ⟨bs, hbs⟩ : ∃ bs, P ++ by4 q = bs := ⟨_, rfl⟩
  have hPl : P.length = 4 := hP ▸ by4_len p
  have hbl : bs.length = 8 := by rw [← hbs, List.length_append, hPl, by4_len]
  rw [hP, hbs] at hby ⊢
  have HP := Lib.hid hP
  have HS := Lib.hid hbs
  clear hP hbs
  obtain ⟨Q, hQ⟩ : ∃ Q, by4 q = Q := ⟨_, rfl⟩
  have hQl : Q.length = 4 := hQ ▸ by4_len q
  rw [hQ] at HS
  have HQ := Lib.hid hQ
  clear hQ
  obtain ⟨i0, hi, hz0, hz1, hz2⟩ := info_parts info5
  have HZ := Lib.hid (And.intro hi (And.intro hz0 (And.intro hz1 hz2)))
  clear hi hz0 hz1 hz2
  go_enter Try.func19, Try.ntmps19
  go_upto_region 1 with fail
  clear hwaE
  go_region_held3 (fun w' => w'.rangeAt w.heap.size 0 K) (first | exact t0 | exact u0 | exact z0 | exact y0 | exact x0)
    (first
      | (go_at_call 24; (fail_if_success (have h9 := hw1)); refine Calls.mono (four_any p wa.drew ra) ?_; rintro e w1 ⟨v', rfl, hv⟩; rw [HP.out] at hv; obtain ⟨A, c, rfl⟩ := hv.1.form; rw [hPl] at hv ⊢; have HV := Lib.hid hv; clear hv; have y0 : w1.rangeAt w.heap.size 0 K := range_b (w := wa.drew) x0 (by simp; omega) HV.out.2; have hw1 : w.heap.size + 1 ≤ w1.heap.size := by (have := HV.out.2.size; simp at this; omega))
      | (go_at_call 24; refine Calls.mono (four_any q w1 rb) ?_; rintro e w2 ⟨v2, rfl, hv⟩; rw [HQ.out] at hv; obtain ⟨g2, c2, rfl, hg2, hgl2, hat⟩ := hv.1.at_ (by omega); rw [hQl] at hv ⊢; have HV2 := Lib.hid hv; have HA := Lib.hid hat; clear hv hat; have z0 : w2.rangeAt w.heap.size 0 K := range_b y0 (by omega) HV2.out.2; have hw2 := HV2.out.2.size; have HO : Hid (w2.ownsRow wa.drew.heap.size 5 1 (.slice A 4 c) 4 (u8s P)) := by (have := HV.out.1.later HV2.out.2; unfold OwnB at this; rw [hPl] at this; exact this))
      | (refine step_append_lies _ rfl _ _ 43 rfl wa.drew.heap.size 5 i0 _ 1 1 Try.underlying43 HZ.out.1 HZ.out.2.1 HZ.out.2.2.1 HZ.out.2.2.2 rfl (by decide) (.slice A 4 c) 4 (u8s P) rfl HO.out ⟨g2, 0, none⟩ 4 c2 (u8s Q) rfl (by simp [u8s, hQl]) HA.out u8s_one (by omega) (by unfold maxLen; omega) (by omega) (by simp; omega) _ rfl ?_; intro g3 c3 w3 hown hgrow hblk hlt; have R := Lib.hid (stepB (w := wa.drew) (wr := w2) (zs := P) (ys := Q) (HV.out.1.later HV2.out.2) (HV.out.2.trans (HV2.out.2.mono (by simp; omega))) (by simp; omega) hQl (by rw [hPl]; exact hown) hgrow); clear hown hgrow; rw [HS.out] at R; have u0 : w3.rangeAt w.heap.size 0 K := range_b (w := wa.drew) x0 (by simp; omega) R.out.2; have hw3 := R.out.2.size)
      | (go_at_call 23; refine (refSum_any x y _ 8 c3 bs w3 ((R.out.1.row hby.out (by omega)).2.2) (by omega)).mono ?_; rintro e w4 ⟨rfl, h2⟩; have H2 := Lib.hid h2; clear h2; have t0 : w4.rangeAt w.heap.size 0 K := range_b u0 (by simp at hw3; omega) H2.out))
  go_wp2
  go_ret
  refine ⟨ret_int rfl, ?_⟩
  have b1 : Below w.heap.size w w3 := HB0.out.trans ((Below.refl _ _).drew.trans (R.out.2.mono (by simp; omega)))
  exact b1.trans (H2.out.mono b1.size)
end Go.Proofs.Ytgpdenhgbipopaa
