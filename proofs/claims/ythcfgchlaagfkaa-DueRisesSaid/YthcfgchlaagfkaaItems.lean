/-
  Rows of items; the walks of items.Less and items.Swap. No condition.
-/
import Derived.Test.YthcfgchlaagfkaaMeth
namespace Go.Proofs.Ythcfgchlaagfkaa
open Go.ChangeShapes Go.WideShapes Go.ChangeAt Go.RowKit
set_option linter.unusedVariables false
set_option linter.unusedSimpArgs false

theorem own_later {w v : World} {B e s n : Nat} {x : Value} {l : List Value} (h : w.ownsRow B e s x n l) (hb : Below w.heap.size w v) : v.ownsRow B e s x n l :=
  ⟨h.1, h.2.imp id fun ⟨g, cap, cur, h1, h2, h3, h4⟩ => ⟨g, cap, cur, h1, h2, (hb.block g (lt_of_block h3)).trans h3, h4⟩⟩
theorem own_base {w : World} {B B' e s n : Nat} {x : Value} {l : List Value} (h : w.ownsRow B e s x n l) (hb : B' ≤ B) : w.ownsRow B' e s x n l :=
  ⟨h.1, h.2.imp id fun ⟨g, cap, cur, h1, h2, h3⟩ => ⟨g, cap, cur, h1, Nat.le_trans hb h2, h3⟩⟩
theorem own_blk {w : World} {B e s n : Nat} {x : Value} {l : List Value} (h : w.ownsRow B e s x n l) {k : Nat} (hk : x.ownBlock = some k) : ∃ cs, Blk w k e cs := by
  rcases h.2 with ⟨rfl, _⟩ | ⟨g, cap, cur, rfl, _, hh, _⟩
  · simp [Value.ownBlock] at hk
  · obtain rfl : g = k := by simpa [Value.ownBlock] using hk
    exact ⟨cur, hh⟩
theorem own_away {W : World} {B e s n : Nat} {v : Value} {xs : List Value} (h : W.ownsRow B e s v n xs) (p : Addr) (x : Value) (hp : v.ownBlock ≠ some p.block) : (W.setCell p x).ownsRow B e s v n xs :=
  ⟨h.1, h.2.imp id fun ⟨g, cap, cur, h1, h2, h3, h4⟩ => ⟨g, cap, cur, h1, h2, Blk.away h3 (fun e => hp (by rw [h1, ← e]; rfl)) x, h4⟩⟩
theorem own_kept {w w' : World} {B e s n : Nat} {v : Value} {xs : List Value} {S : Nat → Prop} (h : w.ownsRow B e s v n xs) (hc : Chg S w w') (hn : ∀ k, v.ownBlock = some k → ¬ S k) : w'.ownsRow B e s v n xs :=
  ⟨h.1, h.2.imp id fun ⟨g, cap, cur, h1, h2, h3, h4⟩ => ⟨g, cap, cur, h1, h2, Blk.kept h3 hc (hn g (by rw [h1]; rfl)), h4⟩⟩
theorem own_form {w : World} {B e s n : Nat} {v : Value} {xs : List Value} (h : w.ownsRow B e s v n xs) (hs : 0 < s) (hn : xs.length = n * s) : ∃ A c, v = .slice A n c := by
  rcases h.2 with ⟨rfl, h0⟩ | ⟨g, cap, cur, rfl, _⟩
  · exact ⟨none, 0, by subst h0; rfl⟩
  · exact ⟨_, _, rfl⟩
theorem own_cell {w : World} {B e s n c : Nat} {A : Option Addr} {xs : List Value} (h : w.ownsRow B e s (.slice A n c) n xs) (hp : 0 < n) : ∃ g, A = some ⟨g, 0, none⟩ ∧ B ≤ g ∧ n ≤ c ∧ c ≤ maxLen ∧ ∃ cs, Blk w g e cs ∧ cs.size = c * s ∧ ∀ j, j < n * s → cs[j]? = xs[j]? := by
  rcases h.2 with ⟨hv, h0⟩ | ⟨g, cap, cur, hv, h1, h2, h3, h4, h5, h6⟩
  · injection hv with h1 h2 h3
    omega
  · injection hv with e1 e2 e3
    subst e1 e3
    refine ⟨g, rfl, h1, h3, h4, cur, h2, h5, fun j hj => ?_⟩
    have := World.ownsRow.cellAt h j hj
    rw [Blk.cell h2] at this
    exact this
/-- Items in a row of their own. -/
def Row (w : World) (B : Nat) (v : Value) (l : List It) : Prop := w.ownsRow B 51 3 v l.length (flatI l)
theorem Row.cells {w : World} {B g n c : Nat} {l : List It} (h : Row w B (.slice (some ⟨g, 0, none⟩) n c) l) (hn : l.length = n) (i : Nat) (hi : i < l.length) :
    w.cell? ⟨g, i * 3, none⟩ = some (.int .i64 l[i].at_) ∧ w.cell? ⟨g, i * 3 + 1, none⟩ = some (.int .i64 l[i].id) ∧ w.cell? ⟨g, i * 3 + 2, none⟩ = some (.int .i64 l[i].seq) := by
  unfold Row at h
  rw [hn] at h
  obtain ⟨g', e, _, _, _, cs, hb, _, hcs⟩ := own_cell h (by omega)
  injection e with e
  injection e with e
  subst e
  obtain ⟨f0, f1, f2⟩ := flatI_at l i hi
  exact ⟨((hb.cell _).trans (hcs _ (by omega))).trans f0, ((hb.cell _).trans (hcs _ (by omega))).trans f1, ((hb.cell _).trans (hcs _ (by omega))).trans f2⟩
theorem Row.later {w v : World} {B : Nat} {x : Value} {l : List It} (h : Row w B x l) (hb : Below w.heap.size w v) : Row v B x l := own_later h hb
theorem Row.draw {w : World} {B : Nat} {x : Value} {l : List It} (h : Row w B x l) : Row w.drew B x l := h.later ((Below.refl _ _).drew)
theorem Row.blk {w : World} {B g n c : Nat} {l : List It} (h : Row w B (.slice (some ⟨g, 0, none⟩) n c) l) : B ≤ g ∧ ∃ cs, Blk w g 51 cs := by
  obtain ⟨cs, hc⟩ := own_blk h (k := g) rfl
  exact ⟨(h.lt g rfl).1, cs, hc⟩
theorem Row.form {w : World} {B : Nat} {v : Value} {l : List It} (h : Row w B v l) : ∃ A c, v = .slice A l.length c := own_form h (by decide) (flatI_len l)
theorem Row.some_ {w : World} {B n c : Nat} {A : Option Addr} {l : List It} (h : Row w B (.slice A n c) l) (hn : l.length = n) (hp : 0 < n) : ∃ g, A = some ⟨g, 0, none⟩ ∧ n ≤ c ∧ c ≤ 9223372036854775807 := by
  unfold Row at h
  rw [hn] at h
  obtain ⟨g, e, _, hc, hm, _⟩ := own_cell h hp
  exact ⟨g, e, hc, by unfold maxLen at hm; exact hm⟩
set_option maxHeartbeats 800000 in
theorem itemsLess_any (g n c B i k : Nat) (l : List It) (w : World) (h : Row w B (.slice (some ⟨g, 0, none⟩) n c) l) (hn : l.length = n) (hi : i < l.length) (hk : k < l.length) (hm : n ≤ 9223372036854775807) :
    Calls Try.prog 45 #[.slice (some ⟨g, 0, none⟩) n c, .int .i64 (i : Int), .int .i64 (k : Int)] w fun e w' => e = .returned (.bool (lessB l[i] l[k])) ∧ Below w.heap.size w w' := by
  obtain ⟨x0, x1, x2⟩ := h.cells hn i hi
  obtain ⟨y0, y1, y2⟩ := h.cells hn k hk
  obtain ⟨x, hx⟩ : ∃ x, l[i] = x := ⟨_, rfl⟩
  obtain ⟨y, hy⟩ : ∃ y, l[k] = y := ⟨_, rfl⟩
  rw [hx] at x0 x1 x2 ⊢
  rw [hy] at y0 y1 y2 ⊢
  have HL := Lib.hid (less_any x y w.drew)
  rw [hn] at hi hk
  have b1 : (0 : Int) ≤ (i : Int) := by omega
  have b2 : (i : Int) < (n : Int) := by omega
  have b3 : (0 : Int) ≤ (k : Int) := by omega
  have b4 : (k : Int) < (n : Int) := by omega
  clear h hx hy hn
  go_enter Try.func45, Try.ntmps45
  go_upto_region 1 with fail
  go_still_tail 8, (by kernel_rfl)
  go_wp2_with fail
  refine Calls.mono HL.out ?_; rintro e w2 ⟨rfl, h2⟩
  have H2 := Lib.hid h2
  clear h2
  go_wp2_with fail
  go_ret
  exact ⟨rfl, (Below.refl _ _).drew.trans H2.out⟩
theorem set3 {w : World} {B g n c : Nat} {l : List It} (h : Row w B (.slice (some ⟨g, 0, none⟩) n c) l) (hn : l.length = n) (i : Nat) (hi : i < l.length) (p : It) :
    Row (((w.setCell ⟨g, i * 3, none⟩ (.int .i64 p.at_)).setCell ⟨g, i * 3 + 1, none⟩ (.int .i64 p.id)).setCell ⟨g, i * 3 + 2, none⟩ (.int .i64 p.seq)) B (.slice (some ⟨g, 0, none⟩) n c) (l.set i p) := by
  unfold Row at h ⊢
  rw [hn] at h
  have h1 := (World.ownsRow.stored h (i * 3) (.int .i64 p.at_)).1
  have h2 := (World.ownsRow.stored h1 (i * 3 + 1) (.int .i64 p.id)).1
  have h3 := (World.ownsRow.stored h2 (i * 3 + 2) (.int .i64 p.seq)).1
  rw [flatI_set l i p hi] at h3
  rw [List.length_set, hn]
  exact h3
def swapL (l : List It) (i k : Nat) (x y : It) : List It := (l.set i y).set k x
theorem chg6 {w : World} (g a b c d e f : Nat) (va vb vc vd ve vf : Value) : Chg (fun k => k = g) w ((((((w.setCell ⟨g, a, none⟩ va).setCell ⟨g, b, none⟩ vb).setCell ⟨g, c, none⟩ vc).setCell ⟨g, d, none⟩ vd).setCell ⟨g, e, none⟩ ve).setCell ⟨g, f, none⟩ vf) :=
  ((((((Chg.refl _ _).put (by exact Or.inl rfl) _).put (by exact Or.inl rfl) _).put (by exact Or.inl rfl) _).put (by exact Or.inl rfl) _).put (by exact Or.inl rfl) _).put (by exact Or.inl rfl) _
set_option maxHeartbeats 1600000 in
theorem swap_ne (g n c B i k : Nat) (l : List It) (x y : It) (w : World) (h : Row w B (.slice (some ⟨g, 0, none⟩) n c) l) (hn : l.length = n) (hi : i < l.length) (hk : k < l.length) (hx : l[i] = x) (hy : l[k] = y) (hne : i ≠ k) (hm : n ≤ 9223372036854775807) :
    Calls Try.prog 46 #[.slice (some ⟨g, 0, none⟩) n c, .int .i64 (i : Int), .int .i64 (k : Int)] w fun e w' => (∃ r, e = .returned r) ∧ Row w' B (.slice (some ⟨g, 0, none⟩) n c) (swapL l i k x y) ∧ Chg (fun b => b = g) w w' := by
  obtain ⟨x0, x1, x2⟩ := h.cells hn i hi
  obtain ⟨y0, y1, y2⟩ := h.cells hn k hk
  obtain ⟨_, cs, hb⟩ := h.blk
  rw [hx] at x0 x1 x2
  rw [hy] at y0 y1 y2
  have HH := Lib.hid h
  have f0 := hb.free (i * 3)
  have f1 := hb.free (i * 3 + 1)
  have f2 := hb.free (i * 3 + 2)
  have e0 := hb.free (k * 3)
  have e1 := hb.free (k * 3 + 1)
  have e2 := hb.free (k * 3 + 2)
  have n0 : ¬ i = k := hne
  have n0' : ¬ k = i := fun e => hne e.symm
  have n1 : ¬ i * 3 = k * 3 + 1 := by omega
  have n2 : ¬ i * 3 = k * 3 + 2 := by omega
  have n3 : ¬ i * 3 + 1 = k * 3 := by omega
  have n4 : ¬ i * 3 + 1 = k * 3 + 2 := by omega
  have n5 : ¬ i * 3 + 2 = k * 3 := by omega
  have n6 : ¬ i * 3 + 2 = k * 3 + 1 := by omega
  have m1 : ¬ k * 3 = i * 3 + 1 := by omega
  have m2 : ¬ k * 3 = i * 3 + 2 := by omega
  have m3 : ¬ k * 3 + 1 = i * 3 := by omega
  have m4 : ¬ k * 3 + 1 = i * 3 + 2 := by omega
  have m5 : ¬ k * 3 + 2 = i * 3 := by omega
  have m6 : ¬ k * 3 + 2 = i * 3 + 1 := by omega
  have HN := Lib.hid hn
  have HI := Lib.hid hi
  have HK := Lib.hid hk
  rw [hn] at hi hk
  have b1 : (0 : Int) ≤ (i : Int) := by omega
  have b2 : (i : Int) < (n : Int) := by omega
  have b3 : (0 : Int) ≤ (k : Int) := by omega
  have b4 : (k : Int) < (n : Int) := by omega
  obtain ⟨xa, xb, xc⟩ := x
  obtain ⟨ya, yb, yc⟩ := y
  clear h hb hn hx hy hne
  go_enter Try.func46, Try.ntmps46
  go_region
  all_goals
    go_end0
    have r1 := set3 (set3 HH.out HN.out i HI.out ⟨ya, yb, yc⟩) (by rw [List.length_set]; exact HN.out) k (by rw [List.length_set]; exact HK.out) ⟨xa, xb, xc⟩
    have r2 := chg6 (w := w) g (i * 3) (i * 3 + 1) (i * 3 + 2) (k * 3) (k * 3 + 1) (k * 3 + 2) (.int .i64 ya) (.int .i64 yb) (.int .i64 yc) (.int .i64 xa) (.int .i64 xb) (.int .i64 xc)
    exact ⟨⟨_, rfl⟩, r1.draw, r2.draw⟩
set_option maxHeartbeats 1600000 in
theorem swap_same (g n c B i : Nat) (l : List It) (x : It) (w : World) (h : Row w B (.slice (some ⟨g, 0, none⟩) n c) l) (hn : l.length = n) (hi : i < l.length) (hx : l[i] = x) (hm : n ≤ 9223372036854775807) :
    Calls Try.prog 46 #[.slice (some ⟨g, 0, none⟩) n c, .int .i64 (i : Int), .int .i64 (i : Int)] w fun e w' => (∃ r, e = .returned r) ∧ Row w' B (.slice (some ⟨g, 0, none⟩) n c) (swapL l i i x x) ∧ Chg (fun b => b = g) w w' := by
  obtain ⟨x0, x1, x2⟩ := h.cells hn i hi
  obtain ⟨_, cs, hb⟩ := h.blk
  rw [hx] at x0 x1 x2
  have HH := Lib.hid h
  have f0 := hb.free (i * 3)
  have f1 := hb.free (i * 3 + 1)
  have f2 := hb.free (i * 3 + 2)
  have HN := Lib.hid hn
  have HI := Lib.hid hi
  rw [hn] at hi
  have b1 : (0 : Int) ≤ (i : Int) := by omega
  have b2 : (i : Int) < (n : Int) := by omega
  obtain ⟨xa, xb, xc⟩ := x
  clear h hb hn hx
  go_enter Try.func46, Try.ntmps46
  go_region
  all_goals
    go_end0
    have r1 := set3 (set3 HH.out HN.out i HI.out ⟨xa, xb, xc⟩) (by rw [List.length_set]; exact HN.out) i (by rw [List.length_set]; exact HI.out) ⟨xa, xb, xc⟩
    have r2 := chg6 (w := w) g (i * 3) (i * 3 + 1) (i * 3 + 2) (i * 3) (i * 3 + 1) (i * 3 + 2) (.int .i64 xa) (.int .i64 xb) (.int .i64 xc) (.int .i64 xa) (.int .i64 xb) (.int .i64 xc)
    exact ⟨⟨_, rfl⟩, r1.draw, r2.draw⟩
theorem swap_any (g n c B i k : Nat) (l : List It) (w : World) (h : Row w B (.slice (some ⟨g, 0, none⟩) n c) l) (hn : l.length = n) (hi : i < l.length) (hk : k < l.length) (hm : n ≤ 9223372036854775807) :
    Calls Try.prog 46 #[.slice (some ⟨g, 0, none⟩) n c, .int .i64 (i : Int), .int .i64 (k : Int)] w fun e w' => (∃ r, e = .returned r) ∧ Row w' B (.slice (some ⟨g, 0, none⟩) n c) (swapL l i k l[i] l[k]) ∧ Chg (fun b => b = g) w w' := by
  by_cases hne : i = k
  · subst hne
    exact swap_same g n c B i l _ w h hn hi rfl hm
  · exact swap_ne g n c B i k l _ _ w h hn hi hk rfl rfl hne hm
end Go.Proofs.Ythcfgchlaagfkaa
