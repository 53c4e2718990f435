/-
  The walk of the library's DeleteFunc, as Age calls it. No condition.
-/
import Derived.Test.YtiooikjaalphiaaAge
namespace Go.Proofs.Ytiooikjaalphiaa
open Go.ChangeShapes Go.WideShapes Go.ChangeAt Go.RowKit
set_option linter.unusedVariables false
set_option linter.unusedSimpArgs false

theorem setCells_blk : ∀ (l : List Value) (w : World) (g o : Nat) (t : TypeId) (cs : Array Value), Blk w g t cs → ∃ ds, Blk (w.setCells g o l) g t ds ∧ ds.size = cs.size ∧ ∀ j, j < o → ds[j]? = cs[j]?
  | [], w, g, o, t, cs, h => ⟨cs, h, rfl, fun _ _ => rfl⟩
  | x :: l, w, g, o, t, cs, h => by
    obtain ⟨ds, h1, h2, h3⟩ := setCells_blk l (w.setCell ⟨g, o, none⟩ x) g (o + 1) t _ (h.put o x rfl)
    refine ⟨ds, h1, by rw [h2]; simp, fun j hj => ?_⟩
    rw [h3 j (by omega), Array.getElem?_setIfInBounds, if_neg (by omega)]
theorem setCells_chg {S : Nat → Prop} {w0 : World} : ∀ (l : List Value) (w : World) (g o : Nat), Chg S w0 w → S g → Chg S w0 (w.setCells g o l)
  | [], w, g, o, h, _ => h
  | x :: l, w, g, o, h, hs => setCells_chg l _ g (o + 1) (Chg.put h (Or.inl hs) x) hs
theorem run_clear2 (w : World) (g o m c : Nat) (cs : Array Value) (t : TypeId) (hb : Blk w g t cs) (hm : 0 < m) (hfit : o + m * 2 ≤ cs.size) :
    ∃ zs, ∀ ty, (Builtin.clear_ #[51] ty #[.slice (some ⟨g, o, none⟩) m c]).run Try.prog w = .ok (.tuple #[]) (w.setCells g o zs) := by
  obtain ⟨i0, hi, hz0, hz1, hz2⟩ := info_parts info41
  obtain ⟨zs, hzs⟩ : ∃ zs, (Builtin.zeroCells (Value.agg #[.slice none 0 0, .int .i64 0]).cells m).toList = zs := ⟨_, rfl⟩
  have hl : zs.length = m * 2 := by rw [← hzs]; simp [Builtin.zeroCells, Value.cells]
  have hone : ∀ v ∈ zs, v.oneCell' = true := by
    intro v hv
    rw [← hzs] at hv
    simp only [Builtin.zeroCells, Value.cells, Array.toList_map, List.mem_map] at hv
    obtain ⟨a, _, rfl⟩ := hv
    have : a % 2 = 0 ∨ a % 2 = 1 := by omega
    rcases this with h | h <;> simp [h, Value.oneCell']
  have hst := run_storeCells_cells (P := Try.prog) g o zs 0 w (fun j hj => by
      rw [show o + 0 + j = o + j by omega, hb.cell, Array.getElem?_eq_getElem (by omega)]; rfl) (fun j hj => hb.free _) hone
  have hv : ∀ w, (zeroValue 41).run Try.prog w = .ok (.agg #[.slice none 0 0, .int .i64 0]) w := fun w => by simp [zeroValue, typeInfo, hi, hz0]
  simp only [Nat.add_zero] at hst
  obtain ⟨k, rfl⟩ : ∃ k, m = k + 1 := ⟨m - 1, by omega⟩
  exact ⟨zs, fun ty => by simp [Builtin.clear_, run_underlying Try.underlying51, hv, hzs, hst]⟩
def keepL (now : Int) (ps : List Pk) : List Pk := ps.filter (fun p => !old now p.born)
/-- What a round of the sifting finds. -/
def SiftIs (now : Int) (B g n c : Nat) (ps : List Pk) (w wr : World) (i j : Nat) : Prop := ∃ kp mid, Sift now ps j kp mid ∧ kp.length = i ∧ wr.ownsRow B 41 2 (.slice (some ⟨g, 0, none⟩) n c) n (flatP (kp ++ mid ++ ps.drop j)) ∧ Chg (fun k => k = g) w wr
theorem row_blk {w : World} {B g n c : Nat} {X : List Value} (h : w.ownsRow B 41 2 (.slice (some ⟨g, 0, none⟩) n c) n X) : B ≤ g ∧ ∃ cs, Blk w g 41 cs ∧ cs.size = c * 2 ∧ cs.toList.take (n * 2) = X ∧ n ≤ c ∧ c ≤ maxLen := by
  rcases h.2 with ⟨hv, _⟩ | ⟨g', cap, cur, hv, h1, h2, h3, h4, h5, h6⟩
  · injection hv with hA; cases hA
  · injection hv with hA e1 e2
    injection hA with hA
    injection hA with hA
    subst hA e2
    exact ⟨h1, cur, h2, h5, h6, h3, h4⟩
theorem delete_none (now : Int) (f B g c : Nat) (ps : List Pk) (w : World) (hr : w.ownsRow B 41 2 (.slice (some ⟨g, 0, none⟩) ps.length c) ps.length (flatP ps)) (hf : w.cell? ⟨f, 0, none⟩ = some (.int .i64 now)) (h1 : small now) (h2 : ∀ p ∈ ps, small p.born) (hn : ps.length ≤ 1000) (hno : fstOld now ps 0 = -1) :
    Calls Try.prog 25 #[.slice (some ⟨g, 0, none⟩) ps.length c, .func (.func 26) #[] #[.pointer (some ⟨f, 0, none⟩)]] w fun e w' => e = .returned (.slice (some ⟨g, 0, none⟩) ps.length c) ∧ Below w.heap.size w w' := by
  obtain ⟨_, cs, hb, _⟩ := row_blk hr
  have HC := Lib.hid (index_any now f g c ps w ⟨hb.lt, World.ownsRow.cells hr rfl⟩ hf h1 h2 hn)
  rw [hno] at HC
  clear hr hf h1 h2 hb hno
  go_enter Try.func25, Try.ntmps25
  go_wp2_with fail
  refine HC.out.mono ?_; rintro e w2 ⟨rfl, h3⟩
  have H3 := Lib.hid h3
  clear h3
  go_wp2_with fail
  go_ret
  exact ⟨rfl, H3.out⟩
set_option maxHeartbeats 3200000 in
theorem delete_some (now : Int) (f B g c : Nat) (a b : List Pk) (q : Pk) (w : World) (hr : w.ownsRow B 41 2 (.slice (some ⟨g, 0, none⟩) (a ++ q :: b).length c) (a ++ q :: b).length (flatP (a ++ q :: b))) (hf : w.cell? ⟨f, 0, none⟩ = some (.int .i64 now)) (hfg : f ≠ g) (h1 : small now) (h2 : ∀ p ∈ a ++ q :: b, small p.born) (hn : (a ++ q :: b).length ≤ 1000)
    (hB : B ≤ w.heap.size) (hix : fstOld now (a ++ q :: b) 0 = (a.length : Int)) (hq : old now q.born = true) (ha : a.filter (fun p => !old now p.born) = a) :
    Calls Try.prog 25 #[.slice (some ⟨g, 0, none⟩) (a ++ q :: b).length c, .func (.func 26) #[] #[.pointer (some ⟨f, 0, none⟩)]] w fun e w' => e = .returned (.slice (some ⟨g, 0, none⟩) (keepL now (a ++ q :: b)).length c) ∧ w'.ownsRow B 41 2 (.slice (some ⟨g, 0, none⟩) (keepL now (a ++ q :: b)).length c) (keepL now (a ++ q :: b)).length (flatP (keepL now (a ++ q :: b))) ∧ Chg (fun k => k = g) w w' := by
  obtain ⟨hBg, cs, hb, hcs, htk, hnc, hcm⟩ := row_blk hr
  have hglt := hb.lt
  have hflt := block_lt_of_cell hf
  have HC := Lib.hid (index_any now f g c (a ++ q :: b) w ⟨hb.lt, World.ownsRow.cells hr rfl⟩ hf h1 h2 hn)
  rw [hix] at HC
  have S0 : Sift now (a ++ q :: b) (a.length + 1) a [q] := ⟨by rw [List.take_append, List.take_of_length_le (by omega), List.filter_append, ha]; simp [hq], by simp, by simp⟩
  have D0 : a ++ [q] ++ (a ++ q :: b).drop (a.length + 1) = a ++ q :: b := by
    rw [List.drop_append, List.drop_eq_nil_of_le (Nat.le_succ _)]
    simp [Nat.add_sub_cancel_left]
  have HR := Lib.hid hr
  have HF := Lib.hid hf
  have H1 := Lib.hid h1
  have H2 := Lib.hid h2
  have hal : a.length + 1 ≤ (a ++ q :: b).length := by simp
  generalize a ++ q :: b = ps at *
  obtain ⟨k, hk⟩ : ∃ k, a.length = k := ⟨_, rfl⟩
  obtain ⟨n, hN⟩ : ∃ n, ps.length = n := ⟨_, rfl⟩
  have HN := Lib.hid hN
  have HI0 : Hid (∀ w2, Below w.heap.size w w2 → SiftIs now B g n c ps w w2 k (k + 1)) := by
    intro w2 hw2
    refine ⟨a, [q], by rw [← hk]; exact S0, hk, ?_, Chg.of_below hw2⟩
    rw [← hk, D0, ← hN]
    exact row_later hr hw2
  rw [hN] at HC hal hn hnc ⊢
  rw [hk] at HC hal
  have hcm2 : c ≤ 9223372036854775807 := by unfold maxLen at hcm; exact hcm
  clear hr hf h1 h2 hb hcs htk S0 D0 hix hq ha hk hN hcm
  go_enter Try.func25, Try.ntmps25
  go_wp2_with fail
  refine HC.out.mono ?_; rintro e w2 ⟨rfl, h3⟩
  have HI2 := Lib.hid (HI0.out w2 h3)
  clear h3
  go_wp2_with fail
  go_loopg [5, 6, 7] (n - k) (fun gk s5 s6 s7 wr => ∃ i j : Nat, s5 = .int .i64 i ∧ s6 = .int .i64 j ∧ gk + j = n + 1 ∧ j ≤ n ∧ i < j ∧ Hid (SiftIs now B g n c ps w wr i j))
  case atStart => exact ⟨k, k + 1, rfl, by go_num, by omega, by omega, by omega, HI2.out⟩
  case round =>
    obtain ⟨i, j, rfl, rfl, hgj, hjn, hij, HI⟩ := hrel
    clear HI2
    by_cases hlt : j < n
    · have hjl : j < ps.length := by have := HN.out; omega
      obtain ⟨kp, mid, hs, hki, hrow, hch⟩ := HI.out
      have hsl := hs.len
      obtain ⟨_, cs, hb, _⟩ := row_blk hrow
      obtain ⟨x0, x1⟩ := row_cells (ps := kp ++ mid ++ ps.drop j) ⟨hb.lt, World.ownsRow.cells hrow rfl⟩ j (by simp; omega)
      rw [hs.row hjl] at x0 x1
      have hf2 : wr.cell? ⟨f, 0, none⟩ = some (.int .i64 now) := (hch.cell (p := ⟨f, 0, none⟩) hflt hfg).trans HF.out
      have hf3 : (wr.alloc (.cells #[.slice (some ⟨ps[j].g, 0, none⟩) ps[j].bs.length ps[j].bs.length, .int .i64 ps[j].born] 41)).cell? ⟨f, 0, none⟩ = some (.int .i64 now) := (((Below.refl wr.heap.size wr).alloc (Nat.le_refl _) _).cell (p := ⟨f, 0, none⟩) (Nat.lt_of_lt_of_le hflt hch.size)).trans hf2
      have hsm := H2.out ps[j] (List.getElem_mem hjl)
      have HC := Lib.hid (old_pk now f ps[j] _ hf3 H1.out hsm)
      have HRW := Lib.hid hrow
      have HCH := Lib.hid hch
      by_cases ho : old now ps[j].born = true
      · obtain ⟨hs2, hrw⟩ := hs.gone hjl ho
        have HS2 := Lib.hid hs2
        rw [hrw] at HRW
        rw [ho] at HC
        generalize ps[j] = p at *
        clear hs hrow hch hb hf2 hf3 hsm ho hs2 hrw
        go_wp2_with fail
        refine HC.out.mono ?_; rintro e w3 ⟨rfl, h3⟩
        have hb3 : Below wr.heap.size wr w3 := ((Below.refl wr.heap.size wr).alloc (Nat.le_refl _) _).trans (h3.mono (by simp))
        have N3 : Hid (SiftIs now B g n c ps w w3 i (j + 1)) := ⟨kp, _, HS2.out, hki, row_later HRW.out hb3, HCH.out.trans (Chg.of_below (S := fun _ => False) hb3) (fun _ _ h => h.elim)⟩
        clear h3 hb3
        go_wp2_with fail
        go_roundg (gk - 1)
        case rel => exact ⟨i, j + 1, rfl, by go_num, by omega, by omega, by omega, N3.out⟩
        case measure => omega
      · have ho : old now ps[j].born = false := by simpa using ho
        obtain ⟨mid', hs2, hrw⟩ := hs.stays hjl ho
        have HS2 := Lib.hid hs2
        have hfs := flat_set (kp ++ mid ++ ps.drop j) kp.length ps[j] (by simp; omega)
        rw [hrw] at hfs
        have HFS := Lib.hid hfs
        rw [ho] at HC
        rw [hki] at HFS
        generalize ps[j] = p at *
        unfold Pk.sl at HFS
        clear hs hrow hch hb hf2 hf3 hsm ho hs2 hrw hfs
        go_wp2_with fail
        refine HC.out.mono ?_; rintro e w3 ⟨rfl, h3⟩
        have hb3 : Below wr.heap.size wr w3 := ((Below.refl wr.heap.size wr).alloc (Nat.le_refl _) _).trans (h3.mono (by simp))
        have kb : Blk w3 wr.heap.size 41 #[.slice (some ⟨p.g, 0, none⟩) p.bs.length p.bs.length, .int .i64 p.born] := (Blk.new wr 41 _).below h3 (by simp)
        have v0 : w3.cell? ⟨wr.heap.size, 0, none⟩ = some (.slice (some ⟨p.g, 0, none⟩) p.bs.length p.bs.length) := kb.cell 0
        have v1 : w3.cell? ⟨wr.heap.size, 1, none⟩ = some (.int .i64 p.born) := kb.cell 1
        have hrw3 := row_later HRW.out hb3
        obtain ⟨_, cs3, hb4, hcs3, _, hnc3, _⟩ := row_blk hrw3
        have u0 : w3.cell? ⟨g, i * 2, none⟩ = some cs3[i * 2] := by rw [hb4.cell, Array.getElem?_eq_getElem (by omega)]
        have u1 : w3.cell? ⟨g, i * 2 + 1, none⟩ = some cs3[i * 2 + 1] := by rw [hb4.cell, Array.getElem?_eq_getElem (by omega)]
        have u2 := hb4.free (i * 2)
        have u3 := hb4.free (i * 2 + 1)
        have st1 := World.ownsRow.stored hrw3 (i * 2) (.slice (some ⟨p.g, 0, none⟩) p.bs.length p.bs.length)
        have st2 := World.ownsRow.stored st1.1 (i * 2 + 1) (.int .i64 p.born)
        have hrow5 := st2.1
        rw [HFS.out] at hrow5
        have hch5 := Chg.put (Chg.put (HCH.out.trans (Chg.of_below (S := fun _ => False) hb3) (fun _ _ h => h.elim)) (p := ⟨g, i * 2, none⟩) (by exact Or.inl rfl) (.slice (some ⟨p.g, 0, none⟩) p.bs.length p.bs.length)) (p := ⟨g, i * 2 + 1, none⟩) (by exact Or.inl rfl) (.int .i64 p.born)
        have N3 : Hid (SiftIs now B g n c ps w ((w3.setCell ⟨g, i * 2, none⟩ (.slice (some ⟨p.g, 0, none⟩) p.bs.length p.bs.length)).setCell ⟨g, i * 2 + 1, none⟩ (.int .i64 p.born)) (i + 1) (j + 1)) := ⟨_, _, HS2.out, by simp [hki], hrow5, hch5⟩
        generalize cs3[i * 2] = y0 at *
        generalize cs3[i * 2 + 1] = y1 at *
        clear h3 hb3 hrw3 hb4 hcs3 hnc3 st1 st2 hrow5 hch5 kb
        go_wp2_with fail
        go_roundg (gk - 1)
        case rel => exact ⟨i + 1, j + 1, by go_num, by go_num, by omega, by omega, by omega, N3.out⟩
        case measure => omega
    · obtain rfl : j = n := by omega
      obtain ⟨kp, mid, hs, hki, hrow, hch⟩ := HI.out
      obtain ⟨_, cs, hb, hcs, htk, _, _⟩ := row_blk hrow
      have hsl := hs.len
      have hpos := hs.pos
      obtain ⟨zs, hclr⟩ := run_clear2 wr g (i * 2) (j - i) (c - i) cs 41 hb (by omega) (by omega)
      have hkeep : keepL now ps = kp := by
        rw [hs.kept]
        unfold keepL
        rw [List.take_of_length_le (by have := HN.out; omega)]
      have hnil : ps.drop j = [] := List.drop_eq_nil_of_le (by have := HN.out; omega)
      rw [hnil, List.append_nil] at htk
      obtain ⟨ds, hd1, hd2, hd3⟩ := setCells_blk zs wr g (i * 2) 41 cs hb
      have HD : Hid ((wr.setCells g (i * 2) zs).ownsRow B 41 2 (.slice (some ⟨g, 0, none⟩) i c) i (flatP kp)) := by
        refine ⟨by rw [flatP_len, hki], Or.inr ⟨g, c, ds, rfl, hBg, hd1, by omega, by unfold maxLen; omega, by rw [hd2, hcs], ?_⟩⟩
        apply List.ext_getElem?
        intro t
        rw [List.getElem?_take]
        split
        · rename_i ht
          have e1 : (flatP (kp ++ mid))[t]? = (flatP kp)[t]? := by rw [flatP_append, List.getElem?_append_left (by rw [flatP_len]; omega)]
          rw [← e1, ← htk, List.getElem?_take, if_pos (by omega)]
          simpa using hd3 t ht
        · rw [List.getElem?_eq_none (by rw [flatP_len]; omega)]
      have HCH := Lib.hid (setCells_chg zs wr g (i * 2) hch rfl)
      have HKL : Hid (keepL now ps = kp ∧ kp.length = i) := ⟨hkeep, hki⟩
      have b1 : (0 : Int) ≤ (i : Int) := by omega
      have b2 : (i : Int) ≤ (j : Int) := by omega
      have b3 : i ≤ j := by omega
      have b4 : ¬ c = i := by omega
      have b5 : i ≤ c := by omega
      have b6 : (i : Int) ≤ (c : Int) := by omega
      clear hs hrow hch hb hcs htk hkeep hnil hd1 hd2 hd3 hki hsl hpos
      go_wp2_with fail
      go_ret
      rw [HKL.out.1, HKL.out.2]
      exact ⟨rfl, HD.out, HCH.out⟩
end Go.Proofs.Ytiooikjaalphiaa
