/-
  The walks of items.Push and items.Pop. No condition beyond a row of a machine's size.
-/
import Derived.Test.YthcfgchlaagfkaaItems
import Derived.Deep.AppendLies
import Derived.Deep.RegionLaw
import Derived.Deep.DrawnRows
import Derived.Deep.CutBlock
namespace Go.Proofs.Ythcfgchlaagfkaa
open Go.ChangeShapes Go.WideShapes Go.ChangeAt Go.RowKit
set_option linter.unusedVariables false
set_option linter.unusedSimpArgs false

/-- The items l lie in the row v, which cell f of block Q holds. -/
structure At (w : World) (B Q f : Nat) (T : TypeId) (cs : Array Value) (v : Value) (l : List It) : Prop where
  blk : Blk w Q T cs
  cell : cs[f]? = some v
  row : Row w B v l
  ne : T ≠ 51
  le : B ≤ w.heap.size
/-- What a call of a heap's may turn. -/
def OwnQ (Q : Nat) (v : Value) (k : Nat) : Prop := k = Q ∨ v.ownBlock = some k
section
variable {w w' : World} {B Q f : Nat} {T : TypeId} {cs : Array Value} {v : Value} {l : List It}
theorem At.holds (h : At w B Q f T cs v l) : w.cell? ⟨Q, f, none⟩ = some v := (h.blk.cell f).trans h.cell
theorem At.free (h : At w B Q f T cs v l) : w.frozen? ⟨Q, f, none⟩ = false := h.blk.free f
theorem At.later (h : At w B Q f T cs v l) (hb : Below w.heap.size w w') : At w' B Q f T cs v l :=
  ⟨h.blk.below hb h.blk.lt, h.cell, h.row.later hb, h.ne, Nat.le_trans h.le hb.size⟩
theorem At.notQ (h : At w B Q f T cs v l) : v.ownBlock ≠ some Q := fun e => by
  obtain ⟨ds, hd⟩ := own_blk h.row e
  exact (hd.differ h.blk (fun e2 => h.ne e2.symm)) rfl
/-- The row was turned in place. -/
theorem At.turned {l' : List It} (h : At w B Q f T cs v l) (hr : Row w' B v l') (hc : Chg (fun k => v.ownBlock = some k) w w') : At w' B Q f T cs v l' :=
  ⟨h.blk.kept hc h.notQ, h.cell, hr, h.ne, Nat.le_trans h.le hc.size⟩
/-- The row was turned, and the cell. -/
theorem At.put {l' : List It} {v' : Value} (h : At w B Q f T cs v l) (hr : Row w' B v' l') (hc : Chg (fun k => v.ownBlock = some k) w w') (hne : v'.ownBlock ≠ some Q) :
    Blk w' Q T cs ∧ At (w'.setCell ⟨Q, f, none⟩ v') B Q f T (cs.setIfInBounds f v') v' l' ∧ Chg (OwnQ Q v) w (w'.setCell ⟨Q, f, none⟩ v') := by
  have hb := h.blk.kept hc h.notQ
  have hf : f < cs.size := (Array.getElem?_eq_some_iff.1 h.cell).1
  have hc2 : Chg (OwnQ Q v) w (w'.setCell ⟨Q, f, none⟩ v') := Chg.put (hc.mono (fun k _ e => Or.inr e)) (by exact Or.inl (Or.inl rfl)) _
  exact ⟨hb, ⟨hb.put f _ rfl, by simp [hf], own_away hr _ _ hne, h.ne, Nat.le_trans h.le hc2.size⟩, hc2⟩
theorem info51 : (Try.prog.info? 51).map (fun i => (i.zero, i.size, i.bytes)) = some (some (.agg #[.int .i64 0, .int .i64 0, .int .i64 0]), 3, 24) := by kernel_rfl
theorem cells3 {w : World} {t : TypeId} {a b c : Value} : ∀ j u, [a, b, c][j]? = some u → (w.alloc (.cells #[a, b, c] t)).cell? ((⟨w.heap.size, 0, none⟩ : Addr).add j) = some u := by
  intro j u hj
  have h : Blk (w.alloc (.cells #[a, b, c] t)) w.heap.size t #[a, b, c] := Blk.new _ _ _
  rw [Addr.add_mid, Nat.zero_add, h.cell]
  simpa using hj
theorem one3 {a b c : Int} : ∀ u ∈ [Value.int .i64 a, .int .i64 b, .int .i64 c], u.oneCell' = true := by
  intro u hu
  simp at hu
  rcases hu with rfl | rfl | rfl <;> rfl
theorem assert51 (x : Value) (w : World) : (Instr.typeAssert (.iface 51 x) 20 51 false).run Try.prog w = .ok x w := by
  simp [Instr.typeAssert, Sem.run_bind, run_underlying Try.underlying51 w]
set_option maxHeartbeats 1600000 in
theorem itemsPush_any (p : It) (h : At w B Q f T cs v l) (hl : l.length ≤ 1000000) :
    Calls Try.prog 49 #[.pointer (some ⟨Q, f, none⟩), .iface 51 (.agg #[.int .i64 p.at_, .int .i64 p.id, .int .i64 p.seq])] w fun e w' => ∃ A' c', (∃ r, e = .returned r) ∧ At w' B Q f T (cs.setIfInBounds f (.slice A' (l.length + 1) c')) (.slice A' (l.length + 1) c') (l ++ [p]) ∧ Chg (OwnQ Q v) w w' ∧ ∀ k, k < w.heap.size → (Value.slice A' (l.length + 1) c').ownBlock = some k → v.ownBlock = some k := by
  obtain ⟨i0, hi, hz0, hz1, hz2⟩ := info_parts info51
  have HZ := Lib.hid (And.intro hi (And.intro hz0 (And.intro hz1 hz2)))
  obtain ⟨A, c, rfl⟩ := h.row.form
  obtain ⟨n, hn⟩ : ∃ n, l.length = n := ⟨_, rfl⟩
  have HN := Lib.hid hn
  have HH := Lib.hid h
  rw [hn] at hl HH ⊢
  obtain ⟨a, b, s⟩ := p
  have x0 : w.drew.cell? ⟨Q, f, none⟩ = some (.slice A n c) := HH.out.holds
  obtain ⟨wa, hwa⟩ : ∃ wa, (w.alloc (.cells #[.int .i64 a, .int .i64 b, .int .i64 s] 51)).drew = wa := ⟨_, rfl⟩
  have BA : Below w.heap.size w wa := by rw [← hwa]; exact ((Below.refl _ _).alloc (Nat.le_refl _) _).drew
  have x1 : wa.cell? ⟨Q, f, none⟩ = some (.slice A n c) := (HH.out.later BA).holds
  rw [← hwa] at x1
  have x2 : (w.alloc (.cells #[.int .i64 a, .int .i64 b, .int .i64 s] 51)).cell? ⟨Q, f, none⟩ = some (.slice A n c) := x1
  have HC3 : Hid (∀ j u, [Value.int .i64 a, .int .i64 b, .int .i64 s][j]? = some u → (w.alloc (.cells #[.int .i64 a, .int .i64 b, .int .i64 s] 51)).drew.cell? ((⟨w.heap.size, 0, none⟩ : Addr).add j) = some u) := fun j u hj => cells3 j u hj
  have RW : Hid ((w.alloc (.cells #[.int .i64 a, .int .i64 b, .int .i64 s] 51)).drew.ownsRow B 51 3 (.slice A n c) n (flatI l)) := by
    have := HH.out.row.later BA
    unfold Row at this
    rw [hn, ← hwa] at this
    exact this
  have HB : Hid (B ≤ (w.alloc (.cells #[.int .i64 a, .int .i64 b, .int .i64 s] 51)).drew.heap.size) := by
    unfold Hid
    rw [hwa]
    exact Nat.le_trans h.le BA.size
  have h63 : Hid (n + 1 ≤ maxLen) := by unfold Hid maxLen; omega
  have h47 : Hid ((n + 1) * 24 ≤ 140737488355328) := by unfold Hid; omega
  have HST : Hid (∀ (g3 c3 : Nat) (w1 : World), w1.ownsRow B 51 3 (.slice (some ⟨g3, 0, none⟩) (n + 1) c3) (n + 1) (flatI l ++ [.int .i64 a, .int .i64 b, .int .i64 s]) → (w.alloc (.cells #[.int .i64 a, .int .i64 b, .int .i64 s] 51)).drew.grownBy w1 (Value.slice A n c).ownBlock → ((Value.slice A n c).ownBlock = some g3 ∨ g3 = (w.alloc (.cells #[.int .i64 a, .int .i64 b, .int .i64 s] 51)).drew.heap.size) →
      Blk w1 Q T cs ∧ At (w1.setCell ⟨Q, f, none⟩ (.slice (some ⟨g3, 0, none⟩) (n + 1) c3)) B Q f T (cs.setIfInBounds f (.slice (some ⟨g3, 0, none⟩) (n + 1) c3)) (.slice (some ⟨g3, 0, none⟩) (n + 1) c3) (l ++ [⟨a, b, s⟩]) ∧ Chg (OwnQ Q (.slice A n c)) w (w1.setCell ⟨Q, f, none⟩ (.slice (some ⟨g3, 0, none⟩) (n + 1) c3)) ∧ ∀ k, k < w.heap.size → (Value.slice (some ⟨g3, 0, none⟩) (n + 1) c3).ownBlock = some k → (Value.slice A n c).ownBlock = some k) := by
    intro g3 c3 w1 hown hgrow hblk
    rw [hwa] at hgrow hblk
    have hc : Chg (fun k => (Value.slice A n c).ownBlock = some k) w w1 := (Chg.of_below BA).trans ((Chg.of_grown hgrow).mono (fun k _ e => e.symm)) (fun _ _ e => e)
    have hrow : Row w1 B (.slice (some ⟨g3, 0, none⟩) (n + 1) c3) (l ++ [⟨a, b, s⟩]) := by
      unfold Row
      rw [flatI_append, flatI_single, List.length_append, hn]
      exact hown
    have hold : ∀ k, k < w.heap.size → (Value.slice (some ⟨g3, 0, none⟩) (n + 1) c3).ownBlock = some k → (Value.slice A n c).ownBlock = some k := by
      intro k hk e
      obtain rfl : g3 = k := by simpa [Value.ownBlock] using e
      rcases hblk with e2 | e2
      · exact e2
      · have := BA.size; omega
    refine (fun r => ⟨r.1, r.2.1, r.2.2, hold⟩) (HH.out.put hrow hc (fun e => ?_))
    obtain ⟨ds, hd⟩ := own_blk hown e
    have hq := HH.out.blk.kept hc HH.out.notQ
    exact (hd.differ hq (fun e2 => HH.out.ne e2.symm)) rfl
  have tq := assert51 (.agg #[.int .i64 a, .int .i64 b, .int .i64 s])
  clear h hi hz0 hz1 hz2 hn hwa BA
  go_enter Try.func49, Try.ntmps49
  go_region_law
    (first
      | (refine step_append_lies _ rfl _ _ 44 rfl B 51 i0 _ 3 24 Try.underlying44 HZ.out.1 HZ.out.2.1 HZ.out.2.2.1 HZ.out.2.2.2 rfl (by decide) (.slice A n c) n (flatI l) rfl RW.out ⟨w.heap.size, 0, none⟩ 1 1 [.int .i64 a, .int .i64 b, .int .i64 s] rfl rfl HC3.out one3 (by omega) h63.out h47.out HB.out _ rfl ?_; intro g3 c3 w5 hown hgrow hblk hlt; have R := Lib.hid (HST.out g3 c3 w5 hown hgrow hblk); clear hown hgrow hblk hlt; have k5 : w5.cell? ⟨Q, f, none⟩ = some (.slice A n c) := (R.out.1.cell f).trans HH.out.cell; have f5 := R.out.1.free f)
      | fail)
  all_goals
    go_end0
    exact ⟨_, _, ⟨_, rfl⟩, R.out.2.1, R.out.2.2.1, R.out.2.2.2⟩
theorem row_cut {g n c : Nat} {l0 : List It} {x : It} (h : Row w B (.slice (some ⟨g, 0, none⟩) (n + 1) c) (l0 ++ [x])) (hn : l0.length = n) : Row w B (.slice (some ⟨g, 0, none⟩) n c) l0 := by
  unfold Row at h ⊢
  rw [List.length_append, hn] at h
  rw [hn]
  obtain ⟨g', e, hB, hc, hm, cs, hb, hs, hcs⟩ := own_cell h (by simp)
  injection e with e
  injection e with e
  subst e
  have hc' : n + 1 ≤ c := hc
  refine ⟨by rw [flatI_len, hn], Or.inr ⟨g, c, cs, rfl, hB, hb, by omega, hm, hs, ?_⟩⟩
  apply List.ext_getElem?
  intro j
  rw [List.getElem?_take]
  split
  · rename_i hj
    have h9 := hcs j (by show j < (n + 1) * 3; omega)
    rw [flatI_append, List.getElem?_append_left (by rw [flatI_len]; omega)] at h9
    simpa using h9
  · rw [List.getElem?_eq_none (by rw [flatI_len]; omega)]
set_option maxHeartbeats 1600000 in
theorem itemsPop_any {l0 : List It} {x : It} {n : Nat} (h : At w B Q f T cs v (l0 ++ [x])) (hn : l0.length = n) (hl : n ≤ 1000000) :
    Calls Try.prog 48 #[.pointer (some ⟨Q, f, none⟩)] w fun e w' => ∃ g c, v = .slice (some ⟨g, 0, none⟩) (n + 1) c ∧ e = .returned (.iface 51 (.agg #[.int .i64 x.at_, .int .i64 x.id, .int .i64 x.seq])) ∧ At w' B Q f T (cs.setIfInBounds f (.slice (some ⟨g, 0, none⟩) n c)) (.slice (some ⟨g, 0, none⟩) n c) l0 ∧ Chg (OwnQ Q v) w w' := by
  obtain ⟨A, c, rfl⟩ := h.row.form
  have hl1 : (l0 ++ [x]).length = n + 1 := by simp [hn]
  rw [hl1] at h ⊢
  obtain ⟨g, rfl, hc, hc2⟩ := h.row.some_ hl1 (by omega)
  have x0 : w.cell? ⟨Q, f, none⟩ = some (.slice (some ⟨g, 0, none⟩) (n + 1) c) := h.holds
  have f0 := h.free
  obtain ⟨y0, y1, y2⟩ := h.row.cells hl1 n (by omega)
  have hx : (l0 ++ [x])[n]'(by omega) = x := by simp [← hn]
  rw [hx] at y0 y1 y2
  have hput := h.put (v' := .slice (some ⟨g, 0, none⟩) n c) (row_cut h.row hn) (Chg.refl _ _) (by have := h.notQ; simpa [Value.ownBlock] using this)
  have RES : Hid (At ((w.setCell ⟨Q, f, none⟩ (.slice (some ⟨g, 0, none⟩) n c)).alloc (.cells #[.int .i64 x.at_, .int .i64 x.id, .int .i64 x.seq] 51)) B Q f T (cs.setIfInBounds f (.slice (some ⟨g, 0, none⟩) n c)) (.slice (some ⟨g, 0, none⟩) n c) l0 ∧ Chg (OwnQ Q (.slice (some ⟨g, 0, none⟩) (n + 1) c)) w ((w.setCell ⟨Q, f, none⟩ (.slice (some ⟨g, 0, none⟩) n c)).alloc (.cells #[.int .i64 x.at_, .int .i64 x.id, .int .i64 x.seq] 51))) :=
    ⟨hput.2.1.later ((Below.refl _ _).alloc (Nat.le_refl _) _), hput.2.2.more _⟩
  have hQ := h.blk.lt
  have hQg : ¬ Q = w.heap.size := by omega
  have b1 : (0 : Int) ≤ (n : Int) := by omega
  have b2 : n ≤ c := by omega
  obtain ⟨xa, xb, xc⟩ := x
  clear h hput hx hl1
  go_enter Try.func48, Try.ntmps48
  go_wp2_with fail
  go_ret
  exact ⟨g, c, ⟨rfl, rfl⟩, rfl, RES.out.1, RES.out.2⟩
end
end Go.Proofs.Ythcfgchlaagfkaa
