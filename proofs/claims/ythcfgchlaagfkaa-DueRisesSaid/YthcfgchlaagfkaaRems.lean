/-
  The queue: Remove. No condition beyond a row of a machine's size.
-/
import Derived.Test.YthcfgchlaagfkaaTurns
namespace Go.Proofs.Ythcfgchlaagfkaa
open Go.ChangeShapes Go.WideShapes Go.ChangeAt Go.RowKit
set_option linter.unusedVariables false
set_option linter.unusedSimpArgs false

theorem delete_any (id : Int) (f B g c n : Nat) (l : List It) (w : World) (h : Row w B (.slice (some ⟨g, 0, none⟩) n c) l) (hn : l.length = n) (hf : w.cell? ⟨f, 0, none⟩ = some (.int .i64 id)) (hfg : f ≠ g) (hm : n ≤ 1000) (hB : B ≤ w.heap.size) :
    Calls Try.prog 20 #[.slice (some ⟨g, 0, none⟩) n c, .func (.func 21) #[] #[.pointer (some ⟨f, 0, none⟩)]] w fun e w' => e = .returned (.slice (some ⟨g, 0, none⟩) (keepL id l).length c) ∧ Row w' B (.slice (some ⟨g, 0, none⟩) (keepL id l).length c) (keepL id l) ∧ Chg (fun k => k = g) w w' := by
  unfold Row at h ⊢
  subst hn
  rcases fst_keep id l 0 with ⟨h1, h2⟩ | ⟨a, p, b, rfl, h1, h2, h3⟩
  · refine (delete_none id f B g c l w h hf hm h1).mono ?_
    rintro e w' ⟨rfl, hb⟩
    have hk : keepL id l = l := h2
    rw [hk]
    exact ⟨rfl, own_later h hb, Chg.of_below hb⟩
  · refine (delete_some id f B g c a b p w h hf hfg hm hB (by rw [h1]; simp) h2 h3).mono ?_
    rintro e w' ⟨rfl, hr, hc⟩
    exact ⟨rfl, hr, hc⟩
section
variable {w w' : World} {B Q H f : Nat} {T : TypeId} {cs : Array Value} {v : Value} {l : List It} {sq : Int}
theorem keepL_len (id : Int) (l : List It) : (keepL id l).length ≤ l.length := List.length_filter_le _ _
set_option maxHeartbeats 3200000 in
theorem remove_q {n : Nat} (id : Int) (h : QIs w H B v l sq) (hl : l.length = n) (hp : 0 < n) (hm : n ≤ 1000) :
    Calls Try.prog 11 #[.pointer (some ⟨H, 0, none⟩), .int .i64 id] w fun e w' => e = .returned (.int .i64 ((n : Int) - ((keepL id l).length : Int))) ∧ ∃ v' l', QIs w' H B v' l' sq ∧ l'.Perm (keepL id l) ∧ Chg (OwnQ H v) w w' := by
  obtain ⟨A, c, rfl⟩ := h.at_.row.form
  rw [hl] at h ⊢
  obtain ⟨g, rfl, hc, hc2⟩ := h.at_.row.some_ hl hp
  obtain ⟨_, cg, hg⟩ := h.at_.row.blk
  have hb1 : Below w.heap.size w (w.alloc (.cells #[.int .i64 id] 3)) := (Below.refl _ _).alloc (Nat.le_refl _) _
  have hQ1 := h.later hb1
  have HH := Lib.hid (len_q hQ1)
  rw [hl] at HH
  have hfx : (w.alloc (.cells #[.int .i64 id] 3)).cell? ⟨w.heap.size, 0, none⟩ = some (.int .i64 id) := (Blk.new w 3 _).cell 0
  have hglt := hg.lt
  have HD := Lib.hid (delete_any id w.heap.size B g c n l _ hQ1.at_.row hl hfx (by omega) hm hQ1.at_.le)
  have x1 := hQ1.at_.holds
  have hkl := keepL_len id l
  rw [hl] at hkl
  have hHlt := h.at_.blk.lt
  have hgH : g ≠ H := fun e => h.at_.notQ (by rw [e]; rfl)
  have RES : Hid (∀ w2, Row w2 B (.slice (some ⟨g, 0, none⟩) (keepL id l).length c) (keepL id l) → Chg (fun k => k = g) (w.alloc (.cells #[.int .i64 id] 3)) w2 →
      At (w2.setCell ⟨H, 1, none⟩ (.slice (some ⟨g, 0, none⟩) (keepL id l).length c)) B H 1 46 ((#[.bool true, .slice (some ⟨g, 0, none⟩) n c, .int .i64 sq] : Array Value).setIfInBounds 1 (.slice (some ⟨g, 0, none⟩) (keepL id l).length c)) (.slice (some ⟨g, 0, none⟩) (keepL id l).length c) (keepL id l) ∧ Chg (OwnQ H (.slice (some ⟨g, 0, none⟩) n c)) w (w2.setCell ⟨H, 1, none⟩ (.slice (some ⟨g, 0, none⟩) (keepL id l).length c)) ∧ w2.frozen? ⟨H, 1, none⟩ = false ∧ w2.cell? ⟨H, 1, none⟩ = some (.slice (some ⟨g, 0, none⟩) n c)) := by
    intro w2 hr hch
    have hp2 := hQ1.at_.put hr (hch.mono (fun k _ e => by rw [e]; rfl)) (by intro e; exact hgH (by simpa [Value.ownBlock] using e))
    exact ⟨hp2.2.1, (Chg.of_below hb1).trans hp2.2.2 (fun _ _ e => e), hp2.1.free 1, (hp2.1.cell 1).trans rfl⟩
  obtain ⟨m, hmk⟩ : ∃ m, (keepL id l).length = m := ⟨_, rfl⟩
  have HM := Lib.hid hmk
  rw [hmk] at HD RES hkl ⊢
  have e1 : wrap64 ((n : Int) - (m : Int)) = (n : Int) - (m : Int) := IntWalk.wrap64_in _ (by omega)
  have e2 : IntKind.i64.wrap ((n : Int) - (m : Int)) = (n : Int) - (m : Int) := IntWalk.i64_in _ (by omega)
  have b1 : ¬ (n : Int) = 0 := by omega
  clear h hb1 hQ1 hfx hg hmk
  go_enter Try.func11, Try.ntmps11
  go_wp2_with fail
  refine HH.out.mono ?_; rintro e w1 ⟨rfl, rfl⟩
  go_wp2_with fail
  refine HD.out.mono ?_; rintro e w2 ⟨rfl, h1, h2⟩
  obtain ⟨r1, r2, r3, r4⟩ := RES.out w2 h1 h2
  have HI := Lib.hid (init_any r1 (by rw [HM.out]; omega))
  have R2 := Lib.hid r2
  clear h1 h2 r1 r2
  go_wp2_with fail
  refine HI.out.mono ?_; rintro e w3 ⟨⟨r, rfl⟩, l', h3, h4⟩
  have H3 := Lib.hid h3
  have x3 := h3.at_.holds
  clear h3
  go_wp2_with fail
  go_returns
  exact ⟨rfl, _, l', QIs.mk' H3.out.at_ h4, H3.out.perm, R2.out.trans H3.out.chg (fun k _ e => Or.inr e)⟩
end
end Go.Proofs.Ythcfgchlaagfkaa
