/-
  The walks of Remove's closure, and of the library's IndexFunc and DeleteFunc, as Remove calls them. No condition.
-/
import Derived.Test.YthcfgchlaagfkaaTops
import Derived.Lib.SliceRun
namespace Go.Proofs.Ythcfgchlaagfkaa
open Go.ChangeShapes Go.WideShapes Go.ChangeAt Go.RowKit
set_option linter.unusedVariables false
set_option linter.unusedSimpArgs false

def CRow (w : World) (a : Addr) (X : List Value) : Prop := a.block < w.heap.size ∧ ∀ j u, X[j]? = some u → w.cell? (a.add j) = some u
theorem CRow.later {w v : World} {a : Addr} {X : List Value} (h : CRow w a X) (hb : Below w.heap.size w v) : CRow v a X :=
  ⟨Nat.lt_of_lt_of_le h.1 hb.size, fun j u hj => (hb.cell (p := a.add j) (by rw [show (a.add j).block = a.block by unfold Addr.add; split <;> rfl]; exact h.1)).trans (h.2 j u hj)⟩
def old (id b : Int) : Bool := b == id
theorem old_pk (now : Int) (f : Nat) (p : It) (w : World) (hf : w.cell? ⟨f, 0, none⟩ = some (.int .i64 now)) :
    Calls Try.prog 21 #[.agg #[.int .i64 p.at_, .int .i64 p.id, .int .i64 p.seq], .pointer (some ⟨f, 0, none⟩)] w fun e w' => e = .returned (.bool (old now p.id)) ∧ Below w.heap.size w w' := by
  have hlt := block_lt_of_cell hf
  have c0 : (w.alloc (.cells #[.int .i64 p.at_, .int .i64 p.id, .int .i64 p.seq] 51)).cell? ⟨f, 0, none⟩ = some (.int .i64 now) := (((Below.refl w.heap.size w).alloc (Nat.le_refl _) _).cell (p := ⟨f, 0, none⟩) hlt).trans hf
  go_enter Try.func21, Try.ntmps21
  go_wp2
  go_ret
  exact ⟨rfl, (Below.refl _ _).alloc (Nat.le_refl _) _⟩
/-- The place of the first that is too old, from place i on. -/
def fstOld (now : Int) : List It → Nat → Int
  | [], _ => -1
  | p :: t, i => if old now p.id = true then (i : Int) else fstOld now t (i + 1)
theorem row_cells {w : World} {g : Nat} {ps : List It} (h : CRow w ⟨g, 0, none⟩ (flatI ps)) (i : Nat) (hi : i < ps.length) : w.cell? ⟨g, i * 3, none⟩ = some (.int .i64 ps[i].at_) ∧ w.cell? ⟨g, i * 3 + 1, none⟩ = some (.int .i64 ps[i].id) ∧ w.cell? ⟨g, i * 3 + 2, none⟩ = some (.int .i64 ps[i].seq) := by
  have h1 := h.2 (i * 3) _ (flatI_at ps i hi).1
  have h2 := h.2 (i * 3 + 1) _ (flatI_at ps i hi).2.1
  have h3 := h.2 (i * 3 + 2) _ (flatI_at ps i hi).2.2
  rw [Addr.add_mid] at h1 h2 h3
  rw [Nat.zero_add] at h1 h2 h3
  exact ⟨h1, h2, h3⟩
theorem index_any (now : Int) (f g c : Nat) (ps : List It) (w : World) (hr : CRow w ⟨g, 0, none⟩ (flatI ps)) (hf : w.cell? ⟨f, 0, none⟩ = some (.int .i64 now)) (hn : ps.length ≤ 1000) :
    Calls Try.prog 26 #[.slice (some ⟨g, 0, none⟩) ps.length c, .func (.func 21) #[] #[.pointer (some ⟨f, 0, none⟩)]] w fun e w' => e = .returned (.int .i64 (fstOld now ps 0)) ∧ Below w.heap.size w w' := by
  have HR := Lib.hid hr
  have HF := Lib.hid hf
  have hflt := block_lt_of_cell hf
  obtain ⟨n, hN⟩ : ∃ n, ps.length = n := ⟨_, rfl⟩
  have HN := Lib.hid hN
  rw [hN] at hn ⊢
  clear hr hf hN
  go_enter Try.func26, Try.ntmps26
  go_wp2_with fail
  go_loopg [5, 8] (n + 1) (fun gk s5 s8 wr => ∃ i : Nat, s8 = .int .i64 i ∧ gk + i = n + 1 ∧ i ≤ n ∧ Hid (fstOld now ps 0 = fstOld now (ps.drop i) i ∧ Below w.heap.size w wr))
  case atStart => exact ⟨0, rfl, by omega, by omega, rfl, Below.refl _ _⟩
  case round =>
    obtain ⟨i, rfl, hgi, hin, HI⟩ := hrel
    by_cases hlt : i < n
    · have hil : i < ps.length := by have := HN.out; omega
      obtain ⟨x0, x1, x2⟩ := row_cells (HR.out.later HI.out.2) i hil
      have hf2 : wr.cell? ⟨f, 0, none⟩ = some (.int .i64 now) := (HI.out.2.cell (p := ⟨f, 0, none⟩) hflt).trans HF.out
      have HC := Lib.hid (old_pk now f ps[i] wr hf2)
      have hd : fstOld now (ps.drop i) i = if old now ps[i].id = true then (i : Int) else fstOld now (ps.drop (i + 1)) (i + 1) := by
        rw [List.drop_eq_getElem_cons hil]; rfl
      have HD := Lib.hid hd
      generalize ps[i] = q at *
      clear hd hf2
      by_cases ho : old now q.id = true
      · rw [ho] at HC HD
        clear ho
        go_wp2_with fail
        refine HC.out.mono ?_; rintro e w2 ⟨rfl, h3⟩
        have H3 := Lib.hid h3
        clear h3
        go_wp2_with fail
        go_ret
        refine ⟨ret_int ?_, HI.out.2.trans (H3.out.mono HI.out.2.size)⟩
        rw [HI.out.1, HD.out]; simp
      · have ho : old now q.id = false := by simpa using ho
        rw [ho] at HC HD
        clear ho
        go_wp2_with fail
        refine HC.out.mono ?_; rintro e w2 ⟨rfl, h3⟩
        have H3 := Lib.hid h3
        clear h3
        go_wp2_with fail
        go_roundg (gk - 1)
        case rel =>
          refine ⟨i + 1, by go_num, by omega, by omega, ?_, HI.out.2.trans (H3.out.mono HI.out.2.size)⟩
          rw [HI.out.1, HD.out]; simp
        case measure => omega
    · obtain rfl : i = n := by omega
      go_wp2_with fail
      go_ret
      refine ⟨ret_int ?_, HI.out.2⟩
      rw [HI.out.1, List.drop_eq_nil_of_le (by have := HN.out; omega)]
      rfl

theorem fst_keep (now : Int) : ∀ (ps : List It) (i : Nat), (fstOld now ps i = -1 ∧ ps.filter (fun p => !old now p.id) = ps) ∨ ∃ a p b, ps = a ++ p :: b ∧ fstOld now ps i = ((i + a.length : Nat) : Int) ∧ old now p.id = true ∧ a.filter (fun p => !old now p.id) = a
  | [], i => Or.inl ⟨rfl, rfl⟩
  | p :: t, i => by
    by_cases h : old now p.id = true
    · exact Or.inr ⟨[], p, t, rfl, by simp [fstOld, h], h, rfl⟩
    · have h' : old now p.id = false := by simpa using h
      rcases fst_keep now t (i + 1) with ⟨h1, h2⟩ | ⟨a, q, b, rfl, h1, h2, h3⟩
      · exact Or.inl ⟨by simp [fstOld, h', h1], by simp [h', h2]⟩
      · refine Or.inr ⟨p :: a, q, b, rfl, ?_, h2, by simp [h', h3]⟩
        simp only [fstOld, h', Bool.false_eq_true, if_false, h1, List.length_cons]
        congr 1
        omega
/-- The row while it is being sifted: kept ones, old ones, those still to be looked at. -/
structure Sift (now : Int) (ps : List It) (j : Nat) (kp mid : List It) : Prop where
  kept : kp = (ps.take j).filter (fun p => !old now p.id)
  len : kp.length + mid.length = j
  pos : 1 ≤ mid.length
theorem Sift.row {now : Int} {ps : List It} {j : Nat} {kp mid : List It} (h : Sift now ps j kp mid) (hj : j < ps.length) : (kp ++ mid ++ ps.drop j)[j]'(by have := h.len; simp; omega) = ps[j] := by
  have hl := h.len
  rw [List.getElem_append_right (by simp; omega)]
  simp [hl]
theorem Sift.gone {now : Int} {ps : List It} {j : Nat} {kp mid : List It} (h : Sift now ps j kp mid) (hj : j < ps.length) (ho : old now ps[j].id = true) : Sift now ps (j + 1) kp (mid ++ [ps[j]]) ∧ kp ++ mid ++ ps.drop j = kp ++ (mid ++ [ps[j]]) ++ ps.drop (j + 1) := by
  refine ⟨⟨?_, by have := h.len; simp; omega, by simp⟩, ?_⟩
  · rw [List.take_add_one, List.getElem?_eq_getElem hj, List.filter_append, h.kept]
    simp [ho]
  · rw [List.drop_eq_getElem_cons hj]; simp
theorem Sift.stays {now : Int} {ps : List It} {j : Nat} {kp mid : List It} (h : Sift now ps j kp mid) (hj : j < ps.length) (ho : old now ps[j].id = false) : ∃ mid', Sift now ps (j + 1) (kp ++ [ps[j]]) mid' ∧ (kp ++ mid ++ ps.drop j).set kp.length ps[j] = kp ++ [ps[j]] ++ mid' ++ ps.drop (j + 1) := by
  obtain ⟨m0, mt, rfl⟩ : ∃ m0 mt, mid = m0 :: mt := by
    cases mid with
    | nil => have := h.pos; simp at this
    | cons m0 mt => exact ⟨m0, mt, rfl⟩
  refine ⟨mt ++ [ps[j]], ⟨?_, by have := h.len; simp at this ⊢; omega, by simp⟩, ?_⟩
  · rw [List.take_add_one, List.getElem?_eq_getElem hj, List.filter_append, ← h.kept]
    simp [ho]
  · rw [List.drop_eq_getElem_cons hj]
    simp
theorem setCells_blk : ∀ (l : List Value) (w : World) (g o : Nat) (t : TypeId) (cs : Array Value), Blk w g t cs → ∃ ds, Blk (w.setCells g o l) g t ds ∧ ds.size = cs.size ∧ ∀ j, j < o → ds[j]? = cs[j]?
  | [], w, g, o, t, cs, h => ⟨cs, h, rfl, fun _ _ => rfl⟩
  | x :: l, w, g, o, t, cs, h => by
    obtain ⟨ds, h1, h2, h3⟩ := setCells_blk l (w.setCell ⟨g, o, none⟩ x) g (o + 1) t _ (h.put o x rfl)
    refine ⟨ds, h1, by rw [h2]; simp, fun j hj => ?_⟩
    rw [h3 j (by omega), Array.getElem?_setIfInBounds, if_neg (by omega)]
theorem setCells_chg {S : Nat → Prop} {w0 : World} : ∀ (l : List Value) (w : World) (g o : Nat), Chg S w0 w → S g → Chg S w0 (w.setCells g o l)
  | [], w, g, o, h, _ => h
  | x :: l, w, g, o, h, hs => setCells_chg l _ g (o + 1) (Chg.put h (Or.inl hs) x) hs
theorem run_clear2 (w : World) (g o m c : Nat) (cs : Array Value) (t : TypeId) (hb : Blk w g t cs) (hm : 0 < m) (hfit : o + m * 3 ≤ cs.size) :
    ∃ zs, ∀ ty, (Builtin.clear_ #[44] ty #[.slice (some ⟨g, o, none⟩) m c]).run Try.prog w = .ok (.tuple #[]) (w.setCells g o zs) := by
  obtain ⟨i0, hi, hz0, hz1, hz2⟩ := info_parts info51
  obtain ⟨zs, hzs⟩ : ∃ zs, (Builtin.zeroCells (Value.agg #[.int .i64 0, .int .i64 0, .int .i64 0]).cells m).toList = zs := ⟨_, rfl⟩
  have hl : zs.length = m * 3 := by rw [← hzs]; simp [Builtin.zeroCells, Value.cells]
  have hone : ∀ v ∈ zs, v.oneCell' = true := by
    intro v hv
    rw [← hzs] at hv
    simp only [Builtin.zeroCells, Value.cells, Array.toList_map, List.mem_map] at hv
    obtain ⟨a, _, rfl⟩ := hv
    have : a % 3 = 0 ∨ a % 3 = 1 ∨ a % 3 = 2 := by omega
    rcases this with h | h | h <;> simp [h, Value.oneCell']
  have hst := run_storeCells_cells (P := Try.prog) g o zs 0 w (fun j hj => by
      rw [show o + 0 + j = o + j by omega, hb.cell, Array.getElem?_eq_getElem (by omega)]; rfl) (fun j hj => hb.free _) hone
  have hv : ∀ w, (zeroValue 51).run Try.prog w = .ok (.agg #[.int .i64 0, .int .i64 0, .int .i64 0]) w := fun w => by simp [zeroValue, typeInfo, hi, hz0]
  simp only [Nat.add_zero] at hst
  obtain ⟨k, rfl⟩ : ∃ k, m = k + 1 := ⟨m - 1, by omega⟩
  exact ⟨zs, fun ty => by simp [Builtin.clear_, run_underlying Try.underlying44, hv, hzs, hst]⟩
def keepL (now : Int) (ps : List It) : List It := ps.filter (fun p => !old now p.id)
/-- What a round of the sifting finds. -/
def SiftIs (now : Int) (B g n c : Nat) (ps : List It) (w wr : World) (i j : Nat) : Prop := ∃ kp mid, Sift now ps j kp mid ∧ kp.length = i ∧ wr.ownsRow B 51 3 (.slice (some ⟨g, 0, none⟩) n c) n (flatI (kp ++ mid ++ ps.drop j)) ∧ Chg (fun k => k = g) w wr
theorem row_blk {w : World} {B g n c : Nat} {X : List Value} (h : w.ownsRow B 51 3 (.slice (some ⟨g, 0, none⟩) n c) n X) : B ≤ g ∧ ∃ cs, Blk w g 51 cs ∧ cs.size = c * 3 ∧ cs.toList.take (n * 3) = X ∧ n ≤ c ∧ c ≤ maxLen := by
  rcases h.2 with ⟨hv, _⟩ | ⟨g', cap, cur, hv, h1, h2, h3, h4, h5, h6⟩
  · injection hv with hA; cases hA
  · injection hv with hA e1 e2
    injection hA with hA
    injection hA with hA
    subst hA e2
    exact ⟨h1, cur, h2, h5, h6, h3, h4⟩
theorem delete_none (now : Int) (f B g c : Nat) (ps : List It) (w : World) (hr : w.ownsRow B 51 3 (.slice (some ⟨g, 0, none⟩) ps.length c) ps.length (flatI ps)) (hf : w.cell? ⟨f, 0, none⟩ = some (.int .i64 now)) (hn : ps.length ≤ 1000) (hno : fstOld now ps 0 = -1) :
    Calls Try.prog 20 #[.slice (some ⟨g, 0, none⟩) ps.length c, .func (.func 21) #[] #[.pointer (some ⟨f, 0, none⟩)]] w fun e w' => e = .returned (.slice (some ⟨g, 0, none⟩) ps.length c) ∧ Below w.heap.size w w' := by
  obtain ⟨_, cs, hb, _⟩ := row_blk hr
  have HC := Lib.hid (index_any now f g c ps w ⟨hb.lt, World.ownsRow.cells hr rfl⟩ hf hn)
  rw [hno] at HC
  clear hr hf hb hno
  go_enter Try.func20, Try.ntmps20
  go_wp2_with fail
  refine HC.out.mono ?_; rintro e w2 ⟨rfl, h3⟩
  have H3 := Lib.hid h3
  clear h3
  go_wp2_with fail
  go_ret
  exact ⟨rfl, H3.out⟩
set_option maxHeartbeats 3200000 in
theorem delete_some (now : Int) (f B g c : Nat) (a b : List It) (q : It) (w : World) (hr : w.ownsRow B 51 3 (.slice (some ⟨g, 0, none⟩) (a ++ q :: b).length c) (a ++ q :: b).length (flatI (a ++ q :: b))) (hf : w.cell? ⟨f, 0, none⟩ = some (.int .i64 now)) (hfg : f ≠ g) (hn : (a ++ q :: b).length ≤ 1000)
    (hB : B ≤ w.heap.size) (hix : fstOld now (a ++ q :: b) 0 = (a.length : Int)) (hq : old now q.id = true) (ha : a.filter (fun p => !old now p.id) = a) :
    Calls Try.prog 20 #[.slice (some ⟨g, 0, none⟩) (a ++ q :: b).length c, .func (.func 21) #[] #[.pointer (some ⟨f, 0, none⟩)]] w fun e w' => e = .returned (.slice (some ⟨g, 0, none⟩) (keepL now (a ++ q :: b)).length c) ∧ w'.ownsRow B 51 3 (.slice (some ⟨g, 0, none⟩) (keepL now (a ++ q :: b)).length c) (keepL now (a ++ q :: b)).length (flatI (keepL now (a ++ q :: b))) ∧ Chg (fun k => k = g) w w' := by
  obtain ⟨hBg, cs, hb, hcs, htk, hnc, hcm⟩ := row_blk hr
  have hglt := hb.lt
  have hflt := block_lt_of_cell hf
  have HC := Lib.hid (index_any now f g c (a ++ q :: b) w ⟨hb.lt, World.ownsRow.cells hr rfl⟩ hf hn)
  rw [hix] at HC
  have S0 : Sift now (a ++ q :: b) (a.length + 1) a [q] := ⟨by rw [List.take_append, List.take_of_length_le (by omega), List.filter_append, ha]; simp [hq], by simp, by simp⟩
  have D0 : a ++ [q] ++ (a ++ q :: b).drop (a.length + 1) = a ++ q :: b := by
    rw [List.drop_append, List.drop_eq_nil_of_le (Nat.le_succ _)]
    simp [Nat.add_sub_cancel_left]
  have HR := Lib.hid hr
  have HF := Lib.hid hf
  have hal : a.length + 1 ≤ (a ++ q :: b).length := by simp
  generalize a ++ q :: b = ps at *
  obtain ⟨k, hk⟩ : ∃ k, a.length = k := ⟨_, rfl⟩
  obtain ⟨n, hN⟩ : ∃ n, ps.length = n := ⟨_, rfl⟩
  have HN := Lib.hid hN
  have HI0 : Hid (∀ w2, Below w.heap.size w w2 → SiftIs now B g n c ps w w2 k (k + 1)) := by
    intro w2 hw2
    refine ⟨a, [q], by rw [← hk]; exact S0, hk, ?_, Chg.of_below hw2⟩
    rw [← hk, D0, ← hN]
    exact own_later hr hw2
  rw [hN] at HC hal hn hnc ⊢
  rw [hk] at HC hal
  have hcm2 : c ≤ 9223372036854775807 := by unfold maxLen at hcm; exact hcm
  clear hr hf hb hcs htk S0 D0 hix hq ha hk hN hcm
  go_enter Try.func20, Try.ntmps20
  go_wp2_with fail
  refine HC.out.mono ?_; rintro e w2 ⟨rfl, h3⟩
  have HI2 := Lib.hid (HI0.out w2 h3)
  clear h3
  go_wp2_with fail
  go_loopg [5, 6, 7] (n - k) (fun gk s5 s6 s7 wr => ∃ i j : Nat, s5 = .int .i64 i ∧ s6 = .int .i64 j ∧ gk + j = n + 1 ∧ j ≤ n ∧ i < j ∧ Hid (SiftIs now B g n c ps w wr i j))
  case atStart => exact ⟨k, k + 1, rfl, by go_num, by omega, by omega, by omega, HI2.out⟩
  case round =>
    obtain ⟨i, j, rfl, rfl, hgj, hjn, hij, HI⟩ := hrel
    clear HI2
    by_cases hlt : j < n
    · have hjl : j < ps.length := by have := HN.out; omega
      obtain ⟨kp, mid, hs, hki, hrow, hch⟩ := HI.out
      have hsl := hs.len
      obtain ⟨_, cs, hb, _⟩ := row_blk hrow
      obtain ⟨x0, x1, x2⟩ := row_cells (ps := kp ++ mid ++ ps.drop j) ⟨hb.lt, World.ownsRow.cells hrow rfl⟩ j (by simp; omega)
      rw [hs.row hjl] at x0 x1 x2
      have hf2 : wr.cell? ⟨f, 0, none⟩ = some (.int .i64 now) := (hch.cell (p := ⟨f, 0, none⟩) hflt hfg).trans HF.out
      have hf3 : (wr.alloc (.cells #[.int .i64 ps[j].at_, .int .i64 ps[j].id, .int .i64 ps[j].seq] 51)).cell? ⟨f, 0, none⟩ = some (.int .i64 now) := (((Below.refl wr.heap.size wr).alloc (Nat.le_refl _) _).cell (p := ⟨f, 0, none⟩) (Nat.lt_of_lt_of_le hflt hch.size)).trans hf2
      have HC := Lib.hid (old_pk now f ps[j] _ hf3)
      have HRW := Lib.hid hrow
      have HCH := Lib.hid hch
      by_cases ho : old now ps[j].id = true
      · obtain ⟨hs2, hrw⟩ := hs.gone hjl ho
        have HS2 := Lib.hid hs2
        rw [hrw] at HRW
        rw [ho] at HC
        generalize ps[j] = p at *
        clear hs hrow hch hb hf2 hf3 ho hs2 hrw
        go_wp2_with fail
        refine HC.out.mono ?_; rintro e w3 ⟨rfl, h3⟩
        have hb3 : Below wr.heap.size wr w3 := ((Below.refl wr.heap.size wr).alloc (Nat.le_refl _) _).trans (h3.mono (by simp))
        have N3 : Hid (SiftIs now B g n c ps w w3 i (j + 1)) := ⟨kp, _, HS2.out, hki, own_later HRW.out hb3, HCH.out.trans (Chg.of_below (S := fun _ => False) hb3) (fun _ _ h => h.elim)⟩
        clear h3 hb3
        go_wp2_with fail
        go_roundg (gk - 1)
        case rel => exact ⟨i, j + 1, rfl, by go_num, by omega, by omega, by omega, N3.out⟩
        case measure => omega
      · have ho : old now ps[j].id = false := by simpa using ho
        obtain ⟨mid', hs2, hrw⟩ := hs.stays hjl ho
        have HS2 := Lib.hid hs2
        have hfs := flatI_set (kp ++ mid ++ ps.drop j) kp.length ps[j] (by simp; omega)
        rw [hrw] at hfs
        have HFS := Lib.hid hfs
        rw [ho] at HC
        rw [hki] at HFS
        generalize ps[j] = p at *
        clear hs hrow hch hb hf2 hf3 ho hs2 hrw hfs
        go_wp2_with fail
        refine HC.out.mono ?_; rintro e w3 ⟨rfl, h3⟩
        have hb3 : Below wr.heap.size wr w3 := ((Below.refl wr.heap.size wr).alloc (Nat.le_refl _) _).trans (h3.mono (by simp))
        have kb : Blk w3 wr.heap.size 51 #[.int .i64 p.at_, .int .i64 p.id, .int .i64 p.seq] := (Blk.new wr 51 _).below h3 (by simp)
        have v0 : w3.cell? ⟨wr.heap.size, 0, none⟩ = some (.int .i64 p.at_) := kb.cell 0
        have v1 : w3.cell? ⟨wr.heap.size, 1, none⟩ = some (.int .i64 p.id) := kb.cell 1
        have v2 : w3.cell? ⟨wr.heap.size, 2, none⟩ = some (.int .i64 p.seq) := kb.cell 2
        have hrw3 := own_later HRW.out hb3
        obtain ⟨_, cs3, hb4, hcs3, _, hnc3, _⟩ := row_blk hrw3
        have u0 : w3.cell? ⟨g, i * 3, none⟩ = some cs3[i * 3] := by rw [hb4.cell, Array.getElem?_eq_getElem (by omega)]
        have u1 : w3.cell? ⟨g, i * 3 + 1, none⟩ = some cs3[i * 3 + 1] := by rw [hb4.cell, Array.getElem?_eq_getElem (by omega)]
        have u4 : w3.cell? ⟨g, i * 3 + 2, none⟩ = some cs3[i * 3 + 2] := by rw [hb4.cell, Array.getElem?_eq_getElem (by omega)]
        have u2 := hb4.free (i * 3)
        have u3 := hb4.free (i * 3 + 1)
        have u5 := hb4.free (i * 3 + 2)
        have st1 := World.ownsRow.stored hrw3 (i * 3) (.int .i64 p.at_)
        have st2 := World.ownsRow.stored st1.1 (i * 3 + 1) (.int .i64 p.id)
        have st3 := World.ownsRow.stored st2.1 (i * 3 + 2) (.int .i64 p.seq)
        have hrow5 := st3.1
        rw [HFS.out] at hrow5
        have hch5 := Chg.put (Chg.put (Chg.put (HCH.out.trans (Chg.of_below (S := fun _ => False) hb3) (fun _ _ h => h.elim)) (p := ⟨g, i * 3, none⟩) (by exact Or.inl rfl) (.int .i64 p.at_)) (p := ⟨g, i * 3 + 1, none⟩) (by exact Or.inl rfl) (.int .i64 p.id)) (p := ⟨g, i * 3 + 2, none⟩) (by exact Or.inl rfl) (.int .i64 p.seq)
        have N3 : Hid (SiftIs now B g n c ps w (((w3.setCell ⟨g, i * 3, none⟩ (.int .i64 p.at_)).setCell ⟨g, i * 3 + 1, none⟩ (.int .i64 p.id)).setCell ⟨g, i * 3 + 2, none⟩ (.int .i64 p.seq)) (i + 1) (j + 1)) := ⟨_, _, HS2.out, by simp [hki], hrow5, hch5⟩
        generalize cs3[i * 3] = y0 at *
        generalize cs3[i * 3 + 1] = y1 at *
        generalize cs3[i * 3 + 2] = y2 at *
        clear h3 hb3 hrw3 hb4 hcs3 hnc3 st1 st2 st3 hrow5 hch5 kb
        go_wp2_with fail
        go_roundg (gk - 1)
        case rel => exact ⟨i + 1, j + 1, by go_num, by go_num, by omega, by omega, by omega, N3.out⟩
        case measure => omega
    · obtain rfl : j = n := by omega
      obtain ⟨kp, mid, hs, hki, hrow, hch⟩ := HI.out
      obtain ⟨_, cs, hb, hcs, htk, _, _⟩ := row_blk hrow
      have hsl := hs.len
      have hpos := hs.pos
      obtain ⟨zs, hclr⟩ := run_clear2 wr g (i * 3) (j - i) (c - i) cs 51 hb (by omega) (by omega)
      have hkeep : keepL now ps = kp := by
        rw [hs.kept]
        unfold keepL
        rw [List.take_of_length_le (by have := HN.out; omega)]
      have hnil : ps.drop j = [] := List.drop_eq_nil_of_le (by have := HN.out; omega)
      rw [hnil, List.append_nil] at htk
      obtain ⟨ds, hd1, hd2, hd3⟩ := setCells_blk zs wr g (i * 3) 51 cs hb
      have HD : Hid ((wr.setCells g (i * 3) zs).ownsRow B 51 3 (.slice (some ⟨g, 0, none⟩) i c) i (flatI kp)) := by
        refine ⟨by rw [flatI_len, hki], Or.inr ⟨g, c, ds, rfl, hBg, hd1, by omega, by unfold maxLen; omega, by rw [hd2, hcs], ?_⟩⟩
        apply List.ext_getElem?
        intro t
        rw [List.getElem?_take]
        split
        · rename_i ht
          have e1 : (flatI (kp ++ mid))[t]? = (flatI kp)[t]? := by rw [flatI_append, List.getElem?_append_left (by rw [flatI_len]; omega)]
          rw [← e1, ← htk, List.getElem?_take, if_pos (by omega)]
          simpa using hd3 t ht
        · rw [List.getElem?_eq_none (by rw [flatI_len]; omega)]
      have HCH := Lib.hid (setCells_chg zs wr g (i * 3) hch rfl)
      have HKL : Hid (keepL now ps = kp ∧ kp.length = i) := ⟨hkeep, hki⟩
      have b1 : (0 : Int) ≤ (i : Int) := by omega
      have b2 : (i : Int) ≤ (j : Int) := by omega
      have b3 : i ≤ j := by omega
      have b4 : ¬ c = i := by omega
      have b5 : i ≤ c := by omega
      have b6 : (i : Int) ≤ (c : Int) := by omega
      clear hs hrow hch hb hcs htk hkeep hnil hd1 hd2 hd3 hki hsl hpos
      go_wp2_with fail
      go_ret
      rw [HKL.out.1, HKL.out.2]
      exact ⟨rfl, HD.out, HCH.out⟩
end Go.Proofs.Ythcfgchlaagfkaa
