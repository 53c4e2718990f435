/-
  What a push does to what is kept, piece by piece. No program in sight; no condition.
-/
import Derived.Test.YtblnlmhkaacciaaDelete
namespace Go.Proofs.Ytblnlmhkaacciaa
open Go.ChangeShapes Go.WideShapes Go.ChangeAt Go.RowKit
set_option linter.unusedVariables false
set_option linter.unusedSimpArgs false

def Ver.shut (p : Ver) (now : Int) : Ver := { p with unt := now }
def dropOld (vs : List Ver) : List Ver := if 4 ≤ vs.length then vs.drop 1 else vs
def closeL (now : Int) (vs : List Ver) : List Ver := vs.dropLast ++ (vs.getLast?.map (fun p => p.shut now)).toList
theorem closeL_snoc (now : Int) (t : List Ver) (p : Ver) : closeL now (t ++ [p]) = t ++ [p.shut now] := by
  unfold closeL
  rw [List.dropLast_concat, List.getLast?_append]
  simp
theorem closeL_nil (now : Int) : closeL now [] = [] := rfl
theorem closeL_len (now : Int) (vs : List Ver) : (closeL now vs).length = vs.length := by
  rcases List.eq_nil_or_concat vs with rfl | ⟨t, p, rfl⟩
  · rfl
  · rw [List.concat_eq_append, closeL_snoc]; simp
theorem dropOld_len {vs : List Ver} (h : vs.length ≤ 4) : (dropOld vs).length ≤ 3 := by
  unfold dropOld
  split
  · simp; omega
  · omega
theorem flatV_shut (now : Int) (t : List Ver) (p : Ver) : (flatV (t ++ [p])).set (t.length * 4 + 2) (.int .i64 now) = flatV (t ++ [p.shut now]) := by
  rw [flatV_append, flatV_append, List.set_append_right _ _ (by rw [flatV_len]; omega), flatV_len, show t.length * 4 + 2 - t.length * 4 = 2 by omega]
  rfl
/-- The blocks that a history's calls may turn. -/
def OwnH (H : Nat) (v : Value) (k : Nat) : Prop := k = H ∨ v.ownBlock = some k
theorem lies_chg {w w' : World} {B : Nat} {p : Ver} {S : Nat → Prop} (h : p.lies w B) (hc : Chg S w w') (hS : ∀ k cs, S k → ¬ Blk w k 3 cs) : p.lies w' B := by
  refine ⟨⟨h.1.1, h.1.2.imp id fun ⟨g, cap, cur, h1, h2, h3, h4⟩ => ⟨g, cap, cur, h1, h2, Blk.kept h3 hc (fun e => hS g cur e h3), h4⟩⟩, h.2⟩
section
variable {w w' : World} {H B : Nat} {v : Value} {vs : List Ver} {last : Int}
theorem HistIs.no3 (h : HistIs w H B v vs last) : ∀ k cs, OwnH H v k → ¬ Blk w k 3 cs := by
  rintro k cs (rfl | e) hb
  · exact (hb.differ h.blk (by decide)) rfl
  · obtain ⟨ds, hd⟩ := own_blk h.row e
    exact (hb.differ hd (by decide)) rfl
theorem HistIs.not_row (h : HistIs w H B v vs last) : v.ownBlock ≠ some H := fun e => by
  have := (h.row.lt H e).1
  have := h.lt
  omega
/-- The oldest one is gone. -/
theorem HistIs.dropped {g c : Nat} {p : Ver} {t : List Ver} (h : HistIs w H B (.slice (some ⟨g, 0, none⟩) 4 c) (p :: t) last) (ht : t.length = 3) (hc : Chg (fun k => k = g) w w') (hrow : w'.ownsRow B 32 4 (.slice (some ⟨g, 0, none⟩) 3 c) 3 (flatV t)) :
    Blk w' H 51 #[.bool true, .slice (some ⟨g, 0, none⟩) 4 c, .int .i64 last] ∧ HistIs (w'.setCell ⟨H, 1, none⟩ (.slice (some ⟨g, 0, none⟩) 3 c)) H B (.slice (some ⟨g, 0, none⟩) 3 c) t last ∧ Chg (OwnH H (.slice (some ⟨g, 0, none⟩) 4 c)) w (w'.setCell ⟨H, 1, none⟩ (.slice (some ⟨g, 0, none⟩) 3 c)) := by
  have hHg : H ≠ g := fun e => h.not_row (by rw [e]; rfl)
  have hb := h.blk.kept hc hHg
  have hc2 : Chg (OwnH H (.slice (some ⟨g, 0, none⟩) 4 c)) w (w'.setCell ⟨H, 1, none⟩ (.slice (some ⟨g, 0, none⟩) 3 c)) := Chg.put (hc.mono (fun k _ e => Or.inr (by rw [e]; rfl))) (by exact Or.inl (Or.inl rfl)) _
  refine ⟨hb, ⟨hb.put 1 _ rfl, ?_, fun q hq => lies_chg (h.tabs q (List.mem_cons_of_mem _ hq)) hc2 h.no3, h.lt, Nat.le_trans h.le hc2.size⟩, hc2⟩
  rw [ht]
  exact own_away hrow _ _ (fun e => hHg (by simpa [Value.ownBlock] using e.symm))
/-- The newest one is the newest no more. -/
theorem HistIs.closed {g c : Nat} {p : Ver} {t : List Ver} (now : Int) (h : HistIs w H B (.slice (some ⟨g, 0, none⟩) (t.length + 1) c) (t ++ [p]) last) :
    (w.cell? ⟨g, t.length * 4 + 2, none⟩).isSome = true ∧ w.frozen? ⟨g, t.length * 4 + 2, none⟩ = false ∧ HistIs (w.setCell ⟨g, t.length * 4 + 2, none⟩ (.int .i64 now)) H B (.slice (some ⟨g, 0, none⟩) (t.length + 1) c) (t ++ [p.shut now]) last ∧ Chg (OwnH H (.slice (some ⟨g, 0, none⟩) (t.length + 1) c)) w (w.setCell ⟨g, t.length * 4 + 2, none⟩ (.int .i64 now)) := by
  have hHg : H ≠ g := fun e => h.not_row (by rw [e]; rfl)
  have hl : (t ++ [p]).length = t.length + 1 := by simp
  have hrow := h.row
  rw [hl] at hrow
  obtain ⟨hBg, cs, hb, hcs, htk, hnc, hcm⟩ := row_blk hrow
  have hc2 : Chg (OwnH H (.slice (some ⟨g, 0, none⟩) (t.length + 1) c)) w (w.setCell ⟨g, t.length * 4 + 2, none⟩ (.int .i64 now)) := Chg.put (Chg.refl _ _) (by exact Or.inl (Or.inr rfl)) _
  refine ⟨?_, hb.free _, ⟨h.blk.away hHg _, ?_, fun q hq => ?_, h.lt, Nat.le_trans h.le hc2.size⟩, hc2⟩
  · rw [hb.cell, Array.getElem?_eq_getElem (by omega)]; rfl
  · have := (World.ownsRow.stored hrow (t.length * 4 + 2) (.int .i64 now)).1
    rw [flatV_shut] at this
    rw [show (t ++ [p.shut now]).length = t.length + 1 by simp]
    exact this
  · rcases List.mem_append.1 hq with hq | hq
    · exact lies_chg (h.tabs q (List.mem_append_left _ hq)) hc2 h.no3
    · rw [List.mem_singleton.1 hq]
      have := lies_chg (h.tabs p (by simp)) hc2 h.no3
      exact ⟨this.1, this.2⟩
theorem HistIs.counted (l2 : Int) (h : HistIs w H B v vs last) : HistIs (w.setCell ⟨H, 2, none⟩ (.int .i64 l2)) H B v vs l2 ∧ Chg (OwnH H v) w (w.setCell ⟨H, 2, none⟩ (.int .i64 l2)) := by
  have hc2 : Chg (OwnH H v) w (w.setCell ⟨H, 2, none⟩ (.int .i64 l2)) := Chg.put (Chg.refl _ _) (by exact Or.inl (Or.inl rfl)) _
  exact ⟨⟨h.blk.put 2 _ rfl, own_away h.row _ _ h.not_row, fun q hq => lies_chg (h.tabs q hq) hc2 h.no3, h.lt, Nat.le_trans h.le hc2.size⟩, hc2⟩
/-- The row has taken one more, ahead of the store of the row. -/
theorem HistIs.grows {v' : Value} {p : Ver} {k : Nat} (h : HistIs w H B v vs last) (hq : p.lies w B) (hown : w'.ownsRow B 32 4 v' k (flatV (vs ++ [p]))) (hk : k = (vs ++ [p]).length) (hg : w.grownBy w' v.ownBlock) :
    Blk w' H 51 #[.bool true, v, .int .i64 last] ∧ HistIs (w'.setCell ⟨H, 1, none⟩ v') H B v' (vs ++ [p]) last ∧ Chg (OwnH H v) w (w'.setCell ⟨H, 1, none⟩ v') := by
  subst hk
  have hN : Blk w' H 51 #[.bool true, v, .int .i64 last] := (hg.block H h.blk.lt (fun e => h.not_row e.symm)).trans h.blk
  have hc2 : Chg (OwnH H v) w (w'.setCell ⟨H, 1, none⟩ v') := Chg.put ((Chg.of_grown hg).mono (fun k _ e => Or.inr e.symm)) (by exact Or.inl (Or.inl rfl)) _
  refine ⟨hN, ⟨hN.put 1 _ rfl, own_away hown _ _ (fun e => ?_), fun q hqm => ?_, h.lt, Nat.le_trans h.le hc2.size⟩, hc2⟩
  · have := (hown.lt H e).1
    have := h.lt
    omega
  · rcases List.mem_append.1 hqm with hqm | hqm
    · exact lies_chg (h.tabs q hqm) hc2 h.no3
    · rw [List.mem_singleton.1 hqm]
      exact lies_chg hq hc2 h.no3
theorem cells4 {w : World} {t : TypeId} {a b c d : Value} : ∀ j u, [a, b, c, d][j]? = some u → (w.alloc (.cells #[a, b, c, d] t)).cell? ((⟨w.heap.size, 0, none⟩ : Addr).add j) = some u := by
  intro j u hj
  have h : Blk (w.alloc (.cells #[a, b, c, d] t)) w.heap.size t #[a, b, c, d] := Blk.new _ _ _
  rw [Addr.add_mid, Nat.zero_add, h.cell]
  simpa using hj
theorem val_one {p : Ver} : ∀ u ∈ p.val, u.oneCell' = true := by
  intro u hu
  simp [Ver.val, Ver.sl] at hu
  rcases hu with rfl | rfl | rfl | rfl <;> rfl
theorem flatV_single (p : Ver) : flatV [p] = p.val := by simp [flatV]
end
end Go.Proofs.Ytblnlmhkaacciaa
