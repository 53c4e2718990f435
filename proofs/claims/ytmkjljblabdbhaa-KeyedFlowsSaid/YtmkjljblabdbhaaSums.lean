/-
  The walks of keyed.Flow, keyed.Pair and the reference's. No condition.
-/
import Derived.Test.YtmkjljblabdbhaaFlows
namespace Go.Proofs.Ytmkjljblabdbhaa
open Go.ChangeShapes Go.WideShapes Go.ChangeAt Go.RowKit
set_option linter.unusedVariables false

theorem u8s_len (zs : List Int) : (u8s zs).length = zs.length := by simp [u8s]
theorem size35 : (Try.prog.info? 35).map (·.size) = some 34 := by kernel_rfl
theorem size24 : (Try.prog.info? 24).map (·.size) = some 2 := by kernel_rfl
theorem size29 : (Try.prog.info? 29).map (·.size) = some 2 := by kernel_rfl
theorem FlowIs.size {cs : Array Value} {src dst : List Int} {sp dp : Int} (h : FlowIs cs src sp dst dp) : cs.toList.length = 34 := by
  rw [h.1]
  simp [u8s_len, h.2.1, h.2.2.1]
theorem var_of {t g n : Nat} {cs : Array Value} {d : TypeDesc} (hu : Try.prog.underlying t = some d) (hd : d.isRow = true) (hn : (Try.prog.info? t).map (·.size) = some n) (hl : cs.toList.length = n) (W : World) (hr : W.rangeAt g 0 cs.toList) : (loadVar t ⟨g, 0, none⟩).run Try.prog W = .ok (.agg cs) W := by
  have := run_loadVar_mid (P := Try.prog) W g 0 t cs.toList _ hr hu hd (by rw [hn, hl])
  simpa using this
theorem range_of {w : World} {g t : Nat} {cs : Array Value} (h : Blk w g t cs) : w.rangeAt g 0 cs.toList := by
  intro j v hj
  rw [Nat.zero_add, h.cell, ← Array.getElem?_toList, hj]
theorem range_later {w v : World} {g : Nat} {l : List Value} (h : w.rangeAt g 0 l) (hg : g < w.heap.size) (hb : Below w.heap.size w v) : v.rangeAt g 0 l := fun j u hj => (hb.cell (p := ⟨g, _, none⟩) hg).trans (h j u hj)
theorem fbytes_len {cs : Array Value} {src dst : List Int} {sp dp : Int} (h : FlowIs cs src sp dst dp) : (fbytes src sp dst dp).length = 36 := by
  simp [fbytes, by2_len, h.2.1, h.2.2.1]
theorem by2_bytes (x : Int) : Bytes (by2 x) := by
  intro z hz
  simp [by2] at hz
  omega
theorem fbytes_bytes {cs : Array Value} {src dst : List Int} {sp dp : Int} (h : FlowIs cs src sp dst dp) : Bytes (fbytes src sp dst dp) := by
  intro z hz
  simp only [fbytes, List.mem_append] at hz
  rcases hz with ((hz | hz) | hz) | hz
  · exact h.2.2.2.1 z hz
  · exact by2_bytes _ z hz
  · exact h.2.2.2.2.1 z hz
  · exact by2_bytes _ z hz

attribute [-go_sem] loadVar in
theorem flow_any (x y : Int) (cs : Array Value) (src dst : List Int) (sp dp : Int) (w : World) (h : FlowIs cs src sp dst dp) :
    Calls Try.prog 10 #[.agg #[Value.int .u64 x, Value.int .u64 y], .agg cs] w fun e w' => e = .returned (.int .u64 (sumI x y (fbytes src sp dst dp))) ∧ Below w.heap.size w w' := by
  have HH := Lib.hid h
  have x0 : ((w.alloc (.cells #[Value.int .u64 x, Value.int .u64 y] 24)).alloc (.cells cs 35)).rangeAt w.heap.size 0 #[Value.int .u64 x, Value.int .u64 y].toList := range_of ((Blk.new w 24 _).more _)
  have x1 : ((w.alloc (.cells #[Value.int .u64 x, Value.int .u64 y] 24)).alloc (.cells cs 35)).rangeAt (w.heap.size + 1) 0 cs.toList := range_of (Blk.newAt _ 35 _ _ (by simp))
  have v0 : ∀ W : World, W.rangeAt w.heap.size 0 #[Value.int .u64 x, Value.int .u64 y].toList → (loadVar 24 ⟨w.heap.size, 0, none⟩).run Try.prog W = .ok (.agg #[Value.int .u64 x, Value.int .u64 y]) W := fun W hr => var_of Try.underlying24 rfl size24 rfl W hr
  have v1 : ∀ W : World, W.rangeAt (w.heap.size + 1) 0 cs.toList → (loadVar 35 ⟨w.heap.size + 1, 0, none⟩).run Try.prog W = .ok (.agg cs) W := fun W hr => var_of Try.underlying35 rfl size35 h.size W hr
  obtain ⟨K, hK⟩ : ∃ K, #[Value.int .u64 x, Value.int .u64 y].toList = K := ⟨_, rfl⟩
  obtain ⟨C, hC⟩ : ∃ C, cs.toList = C := ⟨_, rfl⟩
  rw [hK] at x0 v0
  rw [hC] at x1 v1
  obtain ⟨bs, hbs⟩ : ∃ bs, fbytes src sp dst dp = bs := ⟨_, rfl⟩
  have hlen : bs.length = 36 := hbs ▸ fbytes_len h
  have hby : Bytes bs := hbs ▸ fbytes_bytes h
  have HE := Lib.hid hbs
  rw [hbs]
  have HB0 : Hid (Below w.heap.size w ((w.alloc (.cells #[Value.int .u64 x, Value.int .u64 y] 24)).alloc (.cells cs 35))) := ((Below.refl _ _).alloc (Nat.le_refl _) _).alloc (by simp) _
  have hwa : ((w.alloc (.cells #[Value.int .u64 x, Value.int .u64 y] 24)).alloc (.cells cs 35)).heap.size = w.heap.size + 2 := by simp
  obtain ⟨wa, hwaE⟩ : ∃ wa, ((w.alloc (.cells #[Value.int .u64 x, Value.int .u64 y] 24)).alloc (.cells cs 35)) = wa := ⟨_, rfl⟩
  clear h hbs hK hC
  rw [hwaE] at x0 x1 HB0 hwa
  go_enter Try.func10, Try.ntmps10
  go_upto_region 1 with fail
  clear hwaE
  go_region_held3 (fun w' => w'.rangeAt w.heap.size 0 K ∧ w'.rangeAt (w.heap.size + 1) 0 C) (first | exact ⟨z0, z1⟩ | exact ⟨y0, y1⟩ | exact ⟨x0, x1⟩)
      (first
        | (go_at_call 21; refine (bytes_any _ src dst sp dp _ HH.out).mono ?_; rintro e w1 ⟨v', rfl, hv⟩; rw [HE.out] at hv; obtain ⟨A, c, rfl⟩ := hv.1.form; rw [hlen] at hv ⊢; have hV := hv; have HV := Lib.hid hv; clear hv; have y0 : w1.rangeAt w.heap.size 0 K := range_later (w := wa.drew) x0 (by simp; omega) HV.out.2; have y1 : w1.rangeAt (w.heap.size + 1) 0 C := range_later (w := wa.drew) x1 (by simp; omega) HV.out.2; have hw1 : w.heap.size + 2 ≤ w1.heap.size := by (have := HV.out.2.size; simp at this; omega))
        | (go_at_call 6; refine (sum_any x y A 36 c bs _ ((HV.out.1.row hby (by omega)).2.2) (by omega) (HV.out.1.row hby (by omega)).2.1).mono ?_; rintro e w2 ⟨rfl, h2⟩; have H2 := Lib.hid h2; clear h2; have z0 : w2.rangeAt w.heap.size 0 K := range_later y0 (by omega) H2.out; have z1 : w2.rangeAt (w.heap.size + 1) 0 C := range_later y1 (by omega) H2.out))
  go_wp2
  go_ret
  refine ⟨ret_int rfl, ?_⟩
  have b1 : Below w.heap.size w w1 := HB0.out.trans ((Below.refl _ _).drew.trans (HV.out.2.mono (by simp; omega)))
  exact b1.trans (H2.out.mono b1.size)
attribute [-go_sem] loadVar in
theorem refFlow_any (x y : Int) (cs : Array Value) (src dst : List Int) (sp dp : Int) (w : World) (h : FlowIs cs src sp dst dp) :
    Calls Try.prog 11 #[.agg #[Value.int .u64 x, Value.int .u64 y], .agg cs] w fun e w' => e = .returned (.int .u64 (sumI x y (fbytes src sp dst dp))) ∧ Below w.heap.size w w' := by
  have HH := Lib.hid h
  have x0 : ((w.alloc (.cells #[Value.int .u64 x, Value.int .u64 y] 29)).alloc (.cells cs 35)).rangeAt w.heap.size 0 #[Value.int .u64 x, Value.int .u64 y].toList := range_of ((Blk.new w 29 _).more _)
  have x1 : ((w.alloc (.cells #[Value.int .u64 x, Value.int .u64 y] 29)).alloc (.cells cs 35)).rangeAt (w.heap.size + 1) 0 cs.toList := range_of (Blk.newAt _ 35 _ _ (by simp))
  have v0 : ∀ W : World, W.rangeAt w.heap.size 0 #[Value.int .u64 x, Value.int .u64 y].toList → (loadVar 29 ⟨w.heap.size, 0, none⟩).run Try.prog W = .ok (.agg #[Value.int .u64 x, Value.int .u64 y]) W := fun W hr => var_of Try.underlying29 rfl size29 rfl W hr
  have v1 : ∀ W : World, W.rangeAt (w.heap.size + 1) 0 cs.toList → (loadVar 35 ⟨w.heap.size + 1, 0, none⟩).run Try.prog W = .ok (.agg cs) W := fun W hr => var_of Try.underlying35 rfl size35 h.size W hr
  obtain ⟨K, hK⟩ : ∃ K, #[Value.int .u64 x, Value.int .u64 y].toList = K := ⟨_, rfl⟩
  obtain ⟨C, hC⟩ : ∃ C, cs.toList = C := ⟨_, rfl⟩
  rw [hK] at x0 v0
  rw [hC] at x1 v1
  obtain ⟨bs, hbs⟩ : ∃ bs, fbytes src sp dst dp = bs := ⟨_, rfl⟩
  have hlen : bs.length = 36 := hbs ▸ fbytes_len h
  have hby : Bytes bs := hbs ▸ fbytes_bytes h
  have HE := Lib.hid hbs
  rw [hbs]
  have HB0 : Hid (Below w.heap.size w ((w.alloc (.cells #[Value.int .u64 x, Value.int .u64 y] 29)).alloc (.cells cs 35))) := ((Below.refl _ _).alloc (Nat.le_refl _) _).alloc (by simp) _
  have hwa : ((w.alloc (.cells #[Value.int .u64 x, Value.int .u64 y] 29)).alloc (.cells cs 35)).heap.size = w.heap.size + 2 := by simp
  obtain ⟨wa, hwaE⟩ : ∃ wa, ((w.alloc (.cells #[Value.int .u64 x, Value.int .u64 y] 29)).alloc (.cells cs 35)) = wa := ⟨_, rfl⟩
  clear h hbs hK hC
  rw [hwaE] at x0 x1 HB0 hwa
  go_enter Try.func11, Try.ntmps11
  go_upto_region 1 with fail
  clear hwaE
  go_region_held3 (fun w' => w'.rangeAt w.heap.size 0 K ∧ w'.rangeAt (w.heap.size + 1) 0 C) (first | exact ⟨z0, z1⟩ | exact ⟨y0, y1⟩ | exact ⟨x0, x1⟩)
      (first
        | (go_at_call 22; refine (refBytes_any _ src dst sp dp _ HH.out).mono ?_; rintro e w1 ⟨v', rfl, hv⟩; rw [HE.out] at hv; obtain ⟨A, c, rfl⟩ := hv.1.form; rw [hlen] at hv ⊢; have hV := hv; have HV := Lib.hid hv; clear hv; have y0 : w1.rangeAt w.heap.size 0 K := range_later (w := wa.drew) x0 (by simp; omega) HV.out.2; have y1 : w1.rangeAt (w.heap.size + 1) 0 C := range_later (w := wa.drew) x1 (by simp; omega) HV.out.2; have hw1 : w.heap.size + 2 ≤ w1.heap.size := by (have := HV.out.2.size; simp at this; omega))
        | (go_at_call 7; refine (refSum_any x y A 36 c bs _ ((HV.out.1.row hby (by omega)).2.2) (by omega)).mono ?_; rintro e w2 ⟨rfl, h2⟩; have H2 := Lib.hid h2; clear h2; have z0 : w2.rangeAt w.heap.size 0 K := range_later y0 (by omega) H2.out; have z1 : w2.rangeAt (w.heap.size + 1) 0 C := range_later y1 (by omega) H2.out))
  go_wp2
  go_ret
  refine ⟨ret_int rfl, ?_⟩
  have b1 : Below w.heap.size w w1 := HB0.out.trans ((Below.refl _ _).drew.trans (HV.out.2.mono (by simp; omega)))
  exact b1.trans (H2.out.mono b1.size)
end Go.Proofs.Ytmkjljblabdbhaa
