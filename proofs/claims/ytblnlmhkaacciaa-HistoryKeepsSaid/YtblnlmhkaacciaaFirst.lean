/-
  The walks of pick.first and pick.Two. No condition beyond a length that is no machine's.
-/
import Derived.Test.YtblnlmhkaacciaaPick
namespace Go.Proofs.Ytblnlmhkaacciaa
open Go.ChangeShapes Go.WideShapes Go.ChangeAt Go.RowKit Go.Shelf
set_option linter.unusedVariables false
set_option linter.unusedSimpArgs false
attribute [local go_sem] Oper.semAt_some

theorem grown_drew (W : World) (row : Option Nat) : W.grownBy W.drew row := ⟨rfl, rfl, rfl, Nat.le_refl _, fun _ _ _ => rfl⟩
theorem round_stops (n0 : Nat) (hn0 : 1 ≤ n0) (b1 b2 n c k : Nat) (A : Option Addr) (t : List Int) (w : World) (hn : t.length = n) (hm : n ≤ 17592186044416) (hk : k < n ∨ n = 0) (hk2 : k ≤ 17592186044416) (hS : Slots A n c k t b1 b2 w) :
    SeqStopsK Fence.wide n0 Try.prog 31 #[.pointer (some ⟨b1, 0, none⟩), .pointer (some ⟨b2, 0, none⟩)] (fun x : Int => #[Value.int .i64 x]) (Below w.heap.size) (fun ys => ys = rotL t k) (fun pre => pre <+: rotL t k) n w := fun l J Jx W hW hJ _ hY h0 =>
  round_in n0 hn0 l b1 b2 w.heap.size A n c k t J Jx hn hm hk hk2 w rfl (fun s W1 h => hJ s W1 _ none h (grown_drew W1 none) (fun r e => by cases e)) hS hY W hW h0
theorem first_nil (A : Option Addr) (c : Nat) (u o : Int) (w : World) : Calls Try.prog 28 #[.slice A 0 c, .int .u64 u, .int .i64 o] w fun e w' => e = .returned (.int .i64 0) ∧ Below w.heap.size w w' := by
  go_enter Try.func28, Try.ntmps28
  go_wp2_with fail
  exact bodyPost_ret (v := .int .i64 0) (by simp [results, Try.results28, go_sem]) rfl ⟨rfl, ((Below.refl _ _).alloc (Nat.le_refl _) _).alloc (by simp) _⟩
theorem find_none {l : List Int} {o : Int} (h : ∀ x ∈ l, hit o x = false) : (l.find? (hit o)).getD 0 = 0 := by
  rw [List.find?_eq_none.2 (fun x hx => by rw [h x hx]; simp)]; rfl
theorem find_some {l pre : List Int} {o x : Int} (hp : pre ++ [x] <+: l) (h : ∀ y ∈ pre, hit o y = false) (hx : hit o x = true) : (l.find? (hit o)).getD 0 = x := by
  obtain ⟨r, rfl⟩ := hp
  rw [List.append_assoc, List.find?_append, List.find?_eq_none.2 (fun y hy => by rw [h y hy]; simp)]
  simp [hx]
theorem res28 (tmps : Array Value) (g : Nat) (w : World) (v : Int) (ht : tmps.getD 6 undef = .pointer (some ⟨g, 0, none⟩)) (hc : w.cell? ⟨g, 0, none⟩ = some (.int .i64 v)) : (results Try.f28 tmps).run Try.prog w = .ok (.int .i64 v) w := by
  have ht' : tmps[6]?.getD undef = .pointer (some ⟨g, 0, none⟩) := by simpa using ht
  simp [results, Try.results28, go_sem, ht', hc]
/-- What holds between two rounds. -/
def FirstI (w : World) (S : Nat) (o : Int) (pre : List Int) (W : World) : Prop := (Blk W S 3 #[.int .i64 o] ∧ Blk W (S + 1) 3 #[.int .i64 0]) ∧ Below w.heap.size w W ∧ ∀ x ∈ pre, hit o x = false
def FirstX (w : World) (S : Nat) (o : Int) (c : Code) (pre : List Int) (W : World) : Prop := c = .ret ∧ Below w.heap.size w W ∧ ∃ pre0 x, pre = pre0 ++ [x] ∧ (∀ y ∈ pre0, hit o y = false) ∧ hit o x = true ∧ Blk W (S + 1) 3 #[.int .i64 x]
theorem blk_turn {W W' : World} {k : Nat} {cs : Array Value} {t : TypeId} {row : Option Nat} (h : Blk W k t cs) (hg : W.grownBy W' row) (hr : ∀ r, row = some r → ∃ o : Obj, W.heap[r]? = some o ∧ o.isCells = false) : Blk W' k t cs :=
  (hg.block k h.lt (fun e => by
    obtain ⟨o, ho, hc⟩ := hr k e.symm
    unfold Blk at h
    rw [h] at ho
    injection ho with ho
    subst ho
    cases hc)).trans h
theorem below_turn {W W' w : World} {N B : Nat} {row : Option Nat} (h : Below N w W) (hg : W.grownBy W' row) (hN : N ≤ B) (hs : N ≤ W.heap.size) (hr : ∀ r, row = some r → B ≤ r ∧ ∃ o : Obj, W.heap[r]? = some o ∧ o.isCells = false) : Below N w W' :=
  h.grown hg hs (fun k e => Nat.le_trans hN (hr k e).1)
theorem FirstI.own {w : World} {S N : Nat} {o : Int} (hN : w.heap.size ≤ N) : OwnFrom N (FirstI w S o) := by
  rintro pre W W' row ⟨⟨h1, h2⟩, h3, h4⟩ hg hr
  exact ⟨⟨blk_turn h1 hg (fun r e => (hr r e).2), blk_turn h2 hg (fun r e => (hr r e).2)⟩, below_turn h3 hg hN h3.size hr, h4⟩
theorem FirstX.own {w : World} {S N : Nat} {o : Int} (c : Code) (hN : w.heap.size ≤ N) : OwnFrom N (FirstX w S o c) := by
  rintro pre W W' row ⟨h0, h3, p, x, h4, h5, h6, h7⟩ hg hr
  exact ⟨h0, below_turn h3 hg hN h3.size hr, p, x, h4, h5, h6, blk_turn h7 hg (fun r e => (hr r e).2)⟩
set_option maxRecDepth 100000 in
set_option maxHeartbeats 3200000 in
theorem first_any (A : Option Addr) (n c u k : Nat) (o : Int) (t : List Int) (w : World) (h : NRow w A t) (hn : t.length = n) (hm : n ≤ 17592186044416) (hu : u < 18446744073709551616) (h0 : 0 < n) (hk : u % n = k) :
    Calls Try.prog 28 #[.slice A n c, .int .u64 (u : Int), .int .i64 o] w fun e w' => e = .returned (.int .i64 (fromL t k o)) ∧ Below w.heap.size w w' := by
  have HH := Lib.hid h
  have HL := Lib.hid hn
  have hkn : k < n := by rw [← hk]; exact Nat.mod_lt _ h0
  have z0 : ((n : Int) == 0) = false := by simp; omega
  have u1 : IntKind.u64.wrap (n : Int) = (n : Int) := by rw [IntKind.wrap_u64]; omega
  have u2 : Int.tmod (u : Int) (n : Int) = (k : Int) := by rw [← hk]; rfl
  have u3 : (u : Int) % (n : Int) = (k : Int) := by rw [← hk]; rfl
  have u4 : IntKind.i64.wrap (k : Int) = (k : Int) := IntWalk.i64_in _ (by omega)
  have u5 : wrap64 (k : Int) = (k : Int) := IntWalk.wrap64_in _ (by omega)
  have z1 : ¬ n = 0 := by omega
  clear h hn hk
  refine (callsIn_wide (n := 4)).1 ?_
  refine callsIn_of_wp_marks Try.func28 rfl trivial ?_ rfl
  simp only [Try.ntmps28, List.size_toArray, List.length_cons, List.length_nil, Nat.reduceAdd, Nat.reduceSub, Array.replicate_succ, Array.replicate_zero, List.push_toArray, List.append_toArray, List.nil_append, List.cons_append]
  refine (wpIn_wide).2 ?_
  go_wp2_with fail
  refine (round_any _ ⟨_, _, _, rfl⟩ _ _).mono ?_; rintro e w' ⟨rfl, rfl⟩
  clear z0 u1 u2 u3 u4 u5 z1
  go_wp2_with fail
  have B0 : Below w.heap.size w ((((w.alloc (.cells #[.int .i64 o] 3)).alloc (.cells #[.int .i64 0] 3)).alloc (.cells #[.slice A n c] 26)).alloc (.cells #[.int .i64 (k : Int)] 3)) := ((((Below.refl _ _).alloc (Nat.le_refl _) _).alloc (by simp) _).alloc (by simp; omega) _).alloc (by simp; omega) _
  have E0 : Hid (Blk ((((w.alloc (.cells #[.int .i64 o] 3)).alloc (.cells #[.int .i64 0] 3)).alloc (.cells #[.slice A n c] 26)).alloc (.cells #[.int .i64 (k : Int)] 3)) w.heap.size 3 #[.int .i64 o]) := (((Blk.new w 3 _).more _).more _).more _
  have E1 : Hid (Blk ((((w.alloc (.cells #[.int .i64 o] 3)).alloc (.cells #[.int .i64 0] 3)).alloc (.cells #[.slice A n c] 26)).alloc (.cells #[.int .i64 (k : Int)] 3)) (w.heap.size + 1) 3 #[.int .i64 0]) := ((Blk.newAt _ 3 _ _ (by simp)).more _).more _
  have E2 : Hid (Blk ((((w.alloc (.cells #[.int .i64 o] 3)).alloc (.cells #[.int .i64 0] 3)).alloc (.cells #[.slice A n c] 26)).alloc (.cells #[.int .i64 (k : Int)] 3)) (w.heap.size + 1 + 1) 26 #[.slice A n c]) := (Blk.newAt _ 26 _ _ (by simp)).more _
  have E3 : Hid (Blk ((((w.alloc (.cells #[.int .i64 o] 3)).alloc (.cells #[.int .i64 0] 3)).alloc (.cells #[.slice A n c] 26)).alloc (.cells #[.int .i64 (k : Int)] 3)) (w.heap.size + 1 + 1 + 1) 3 #[.int .i64 (k : Int)]) := Blk.newAt _ 3 _ _ (by simp)
  obtain ⟨wc, hwc⟩ : ∃ wc, ((((w.alloc (.cells #[.int .i64 o] 3)).alloc (.cells #[.int .i64 0] 3)).alloc (.cells #[.slice A n c] 26)).alloc (.cells #[.int .i64 (k : Int)] 3)) = wc := ⟨_, rfl⟩
  rw [hwc] at B0 E0 E1 E2 E3 ⊢
  have HB := Lib.hid B0
  have HS : Hid (Slots A n c k t (w.heap.size + 1 + 1) (w.heap.size + 1 + 1 + 1) wc) := ⟨E2.out.lt, E3.out.lt, (E2.out.cell 0).trans rfl, (E3.out.cell 0).trans rfl, HH.out.later B0⟩
  clear hwc B0
  refine (wpIn_wide (n := 4)).1 ?_
  refine wpIn_rangeFunc_ownG rfl (by omega) (gf := 31) (lb := #[.pointer (some ⟨w.heap.size + 1 + 1, 0, none⟩), .pointer (some ⟨w.heap.size + 1 + 1 + 1, 0, none⟩)]) rfl trivial (enters_of Try.func31 (by kernel_rfl) rfl)
    (round_stops 3 (by omega) (w.heap.size + 1 + 1) (w.heap.size + 1 + 1 + 1) n c k A t wc HL.out hm (.inl hkn) (by omega) HS.out) belowK_t (belowK_b (Nat.le_refl _)) (Below.refl _ _) (fun _ => rfl)
    (FirstI w w.heap.size o) (FirstX w w.heap.size o) (FirstI.own HB.out.size) (fun c => FirstX.own c HB.out.size)
    ⟨⟨E0.out, E1.out⟩, HB.out, fun x hx => by cases hx⟩
    (fun z => { tmps := #[.slice A n c, .int .u64 (u : Int), .int .i64 o, undef, undef, .pointer (some ⟨w.heap.size, 0, none⟩), .pointer (some ⟨w.heap.size + 1, 0, none⟩), .int .i64 z, .slice A n c, .int .i64 (n : Int), .bool false, .slice A n c, .int .u64 (u : Int), .slice A n c, .int .i64 (n : Int), .int .u64 (n : Int), .int .u64 (k : Int), .int .i64 (k : Int), .func (.func 31) #[] #[.pointer (some ⟨w.heap.size + 1 + 1, 0, none⟩), .pointer (some ⟨w.heap.size + 1 + 1 + 1, 0, none⟩)], .int .i64 z, undef, undef, undef, undef, undef, undef, undef, undef], defers := [] }) ?assign ?body ?done ?stop
  case assign =>
    intro l z W KK hKK
    gi_wp2
    exact hKK
  case body =>
    rintro l pre z W ⟨⟨h1, h2⟩, hB, hno⟩ hlt
    have c1 : W.cell? ⟨w.heap.size, 0, none⟩ = some (.int .i64 o) := (h1.cell 0).trans rfl
    have c2 : W.cell? ⟨w.heap.size + 1, 0, none⟩ = some (.int .i64 0) := (h2.cell 0).trans rfl
    have f2 : W.frozen? ⟨w.heap.size + 1, 0, none⟩ = false := h2.free 0
    have H1 := Lib.hid h1
    have H2 := Lib.hid h2
    have HBB := Lib.hid hB
    have HNO := Lib.hid hno
    clear h1 h2 hB hno
    by_cases hz : 0 < z
    · have t1 : decide (0 < z) = true := decide_eq_true hz
      by_cases hzo : z = o
      · have t2 : (z != o) = false := by simpa using hzo
        have hh : hit o z = false := by unfold hit; simp [hzo]
        have HHT := Lib.hid hh
        clear hzo hh
        gi_wp2
        exact ⟨(KeepsOthers.refl _).from _, Below.refl _ _, ⟨H1.out, H2.out⟩, HBB.out, fun x hx => by
          rcases List.mem_append.1 hx with hx | hx
          · exact HNO.out x hx
          · rw [List.mem_singleton.1 hx]; exact HHT.out⟩
      · have t2 : (z != o) = true := by simpa using hzo
        have hh : hit o z = true := by unfold hit; simp [hz, hzo]
        have HHT := Lib.hid hh
        clear hzo hh
        gi_wp2
        exact ⟨(KeepsOthers.setCell _ _ _).from _, rfl, HBB.out.setCell (p := ⟨w.heap.size + 1, 0, none⟩) (by simp) _, pre, z, rfl, HNO.out, HHT.out, H2.out.put 0 _ rfl⟩
    · have t1 : decide (0 < z) = false := decide_eq_false hz
      have hh : hit o z = false := by unfold hit; simp [hz]
      have HHT := Lib.hid hh
      clear hh
      gi_wp2
      exact ⟨(KeepsOthers.refl _).from _, Below.refl _ _, ⟨H1.out, H2.out⟩, HBB.out, fun x hx => by
          rcases List.mem_append.1 hx with hx | hx
          · exact HNO.out x hx
          · rw [List.mem_singleton.1 hx]; exact HHT.out⟩
  case done =>
    rintro D ys W hD hS2 ⟨⟨h1, h2⟩, hB, hno⟩ hK
    have c2 : W.cell? ⟨w.heap.size + 1, 0, none⟩ = some (.int .i64 0) := (h2.cell 0).trans rfl
    have f2 : W.frozen? ⟨w.heap.size + 1, 0, none⟩ = false := h2.free 0
    have H2 := Lib.hid h2
    have HBB := Lib.hid hB
    have HK := Lib.hid hK
    have HRES : Hid (fromL t k o = 0) := by unfold Hid fromL; rw [← hS2]; exact find_none hno
    have hDS : w.heap.size + 1 < D := by have h1 := E1.out.lt; omega
    have HDS := Lib.hid hDS
    have HD := Lib.hid hD
    clear h1 h2 hB hno hK hS2 hDS hD
    go_wp2_with fail
    have K2 : (W.setCell ⟨w.heap.size + 1, 0, none⟩ (.int .i64 0)).heap[D]? = some (.deferred (some [])) := (KeepsOthers.setCell _ _ _).same D _ HK.out rfl
    have B2 : Below w.heap.size w (W.setCell ⟨w.heap.size + 1, 0, none⟩ (.int .i64 0)) := HBB.out.setCell (p := ⟨w.heap.size + 1, 0, none⟩) (by simp) _
    refine ⟨by simp, .inl ⟨_, _, rfl, run_takeDeferred K2, ?_⟩⟩
    refine ⟨_, res28 _ (w.heap.size + 1) _ 0 (by simp) ?_, by rw [HRES.out], B2.trans (belowK_b (w := w) (Nat.le_refl _) _ D _ _ (by have := HDS.out; omega) K2 rfl rfl)⟩
    exact (World.cell?_of_block (a := ⟨w.heap.size + 1, 0, none⟩) (World.putObj_heap_other (by have := HDS.out; simp; omega))).trans (((H2.out.put 0 (.int .i64 0) rfl).cell 0).trans rfl)
  case stop =>
    rintro D c pre W hD hp ⟨rfl, hB, p, x, rfl, hno, hx, h2⟩ hK
    have HRES : Hid (fromL t k o = x) := by unfold Hid fromL; exact find_some hp hno hx
    have hDS : w.heap.size + 1 < D := by have h1 := E1.out.lt; omega
    have H2 := Lib.hid h2
    have HBB := Lib.hid hB
    have HK := Lib.hid hK
    have HDS := Lib.hid hDS
    clear h2 hB hno hK hDS hp hx hD
    refine wpIn_wide.2 ?_
    go_wp2_with fail
    refine ⟨by simp, .inl ⟨_, _, rfl, run_takeDeferred HK.out, ?_⟩⟩
    refine ⟨_, res28 _ (w.heap.size + 1) _ x (by simp) ?_, by rw [HRES.out], HBB.out.trans (belowK_b (w := w) (Nat.le_refl _) _ D _ _ (by have := HDS.out; omega) HK.out rfl rfl)⟩
    exact (World.cell?_of_block (a := ⟨w.heap.size + 1, 0, none⟩) (World.putObj_heap_other (by have := HDS.out; simp; omega))).trans ((H2.out.cell 0).trans rfl)
end Go.Proofs.Ytblnlmhkaacciaa
