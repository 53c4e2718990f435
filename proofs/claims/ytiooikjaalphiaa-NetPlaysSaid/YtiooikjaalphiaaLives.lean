/-
  The walks of Age, lives and NetNil. No condition.
-/
import Derived.Test.YtiooikjaalphiaaDelete
namespace Go.Proofs.Ytiooikjaalphiaa
open Go.ChangeShapes Go.WideShapes Go.ChangeAt Go.RowKit
set_option linter.unusedVariables false
set_option linter.unusedSimpArgs false

theorem NetIs.chgRow {w w3 : World} {N B g n c c' m : Nat} {ps qs : List Pk} {l : Int} (h : NetIs w N B (.slice (some ⟨g, 0, none⟩) n c) ps l) (hc : Chg (fun k => k = g) w w3) (hq : ∀ p ∈ qs, p ∈ ps) (hm : m = qs.length) (hown : w3.ownsRow B 41 2 (.slice (some ⟨g, 0, none⟩) m c') m (flatP qs)) :
    Blk w3 N 53 #[.bool true, .slice (some ⟨g, 0, none⟩) n c, .int .i64 l] ∧ NetIs (w3.setCell ⟨N, 1, none⟩ (.slice (some ⟨g, 0, none⟩) m c')) N B (.slice (some ⟨g, 0, none⟩) m c') qs l := by
  subst hm
  obtain ⟨hBg, cs, hb, _⟩ := row_blk hown
  have hNg : N ≠ g := by have := h.2.2.2.1; omega
  have hN : Blk w3 N 53 #[.bool true, .slice (some ⟨g, 0, none⟩) n c, .int .i64 l] := h.1.kept hc hNg
  refine ⟨hN, hN.put 1 _ rfl, row_away hown _ _ h.2.2.2.1, fun p hp => ?_, h.2.2.2.1, by have := hc.size; have := h.2.2.2.2; simp [World.setCell]; omega⟩
  have hp2 := h.2.2.1 p (hq p hp)
  refine ⟨Blk.away (Blk.kept hp2.1 hc ?_) (by have := h.2.2.2.1; have := hp2.2; show p.g ≠ N; omega) _, hp2.2⟩
  rintro rfl
  rcases h.2.1.2 with ⟨hv, _⟩ | ⟨g', cap, cur, hv, h1, h2, _⟩
  · injection hv with hA; cases hA
  · injection hv with hA e1 e2
    injection hA with hA
    injection hA with hA
    exact (Blk.differ hp2.1 h2 (by decide)) hA
theorem age_zero {N B : Nat} {v : Value} {lost : Int} {w : World} (now : Int) (h : NetIs w N B v [] lost) : Calls Try.prog 15 #[.pointer (some ⟨N, 0, none⟩), .int .i64 now] w fun e w' => e = .returned (.int .i64 0) ∧ NetIs w' N B v [] lost ∧ Below w.heap.size w w' := by
  have HL := Lib.hid (len_net (h.other ((Below.refl w.heap.size w).alloc (Nat.le_refl _) (.cells #[.int .i64 now] 3))))
  have HN := Lib.hid h
  clear h
  go_enter Try.func15, Try.ntmps15
  go_wp2_with fail
  refine HL.out.mono ?_; rintro e w' ⟨rfl, rfl⟩
  go_wp2
  go_ret
  have hb := (Below.refl w.heap.size w).alloc (Nat.le_refl _) (.cells #[.int .i64 now] 3)
  exact ⟨rfl, HN.out.other hb, hb⟩
set_option maxHeartbeats 1600000 in
theorem age_any {N B : Nat} {v : Value} {ps : List Pk} {lost : Int} {w : World} (now : Int) (h : NetIs w N B v ps lost) (hp : 0 < ps.length) (hn : ps.length ≤ 1000) (h1 : small now) (h2 : ∀ p ∈ ps, small p.born) :
    Calls Try.prog 15 #[.pointer (some ⟨N, 0, none⟩), .int .i64 now] w fun e w' => ∃ v', e = .returned (.int .i64 ((ps.length : Int) - (keepL now ps).length)) ∧ NetIs w' N B v' (keepL now ps) lost ∧ Chg (OwnN N v) w w' := by
  obtain ⟨g, c, rfl, hc1, hg1, hg2, hcr, hc2⟩ := h.some_ hp
  have hba : Below w.heap.size w (w.alloc (.cells #[.int .i64 now] 3)) := (Below.refl _ _).alloc (Nat.le_refl _) _
  have HBA := Lib.hid hba
  have hN0 := h.other hba
  have HL := Lib.hid (len_net hN0)
  have hnow : (w.alloc (.cells #[.int .i64 now] 3)).cell? ⟨w.heap.size, 0, none⟩ = some (.int .i64 now) := (Blk.new w 3 #[.int .i64 now]).cell 0
  have HKS : ∀ p ∈ keepL now ps, p ∈ ps := fun p hp => (List.mem_filter.1 hp).1
  have hkl : (keepL now ps).length ≤ ps.length := List.length_filter_le _ _
  have HD : Hid (Calls Try.prog 25 #[.slice (some ⟨g, 0, none⟩) ps.length c, .func (.func 26) #[] #[.pointer (some ⟨w.heap.size, 0, none⟩)]] (w.alloc (.cells #[.int .i64 now] 3)) fun e w' => e = .returned (.slice (some ⟨g, 0, none⟩) (keepL now ps).length c) ∧ w'.ownsRow B 41 2 (.slice (some ⟨g, 0, none⟩) (keepL now ps).length c) (keepL now ps).length (flatP (keepL now ps)) ∧ Chg (fun k => k = g) (w.alloc (.cells #[.int .i64 now] 3)) w') := by
    rcases fst_keep now ps 0 with ⟨e1, e2⟩ | ⟨a, q, b, rfl, e1, e2, e3⟩
    · refine (delete_none now w.heap.size B g c ps _ hN0.2.1 hnow h1 h2 hn e1).mono ?_
      rintro e w' ⟨rfl, hb⟩
      have e4 : keepL now ps = ps := e2
      rw [e4]
      exact ⟨rfl, row_later hN0.2.1 hb, Chg.of_below hb⟩
    · exact delete_some now w.heap.size B g c a b q _ hN0.2.1 hnow (by omega) h1 h2 hn hN0.2.2.2.2 (by rw [e1]; congr 1; omega) e2 e3
  have HN0 := Lib.hid hN0
  have hNB := h.2.2.2.1
  have hBw := h.2.2.2.2
  have c1 : (w.alloc (.cells #[.int .i64 now] 3)).cell? ⟨N, 1, none⟩ = some (.slice (some ⟨g, 0, none⟩) ps.length c) := hN0.1.cell 1
  have HK := Lib.hid HKS
  obtain ⟨m, hm⟩ : ∃ m, (keepL now ps).length = m := ⟨_, rfl⟩
  have HM := Lib.hid hm
  rw [hm] at HD hkl
  rw [hm]
  obtain ⟨n, hN⟩ : ∃ n, ps.length = n := ⟨_, rfl⟩
  have HNN := Lib.hid hN
  rw [hN] at HL HD c1 hp hn HN0 hkl
  have t1 : ((n : Int) == 0) = false := by simp; omega
  have t2 : wrap64 ((n : Int) - (m : Int)) = (n : Int) - m := IntWalk.wrap64_in _ (by omega)
  rw [hN]
  clear h hcr hba hN0 hnow HKS h1 h2 hm hN
  go_enter Try.func15, Try.ntmps15
  go_wp2_with fail
  refine HL.out.mono ?_; rintro e w' ⟨rfl, rfl⟩
  go_wp2_with fail
  refine HD.out.mono ?_; rintro e w2 ⟨rfl, h3, h4⟩
  obtain ⟨k1, k2⟩ := HN0.out.chgRow h4 HK.out HM.out.symm h3
  have x1 : w2.cell? ⟨N, 1, none⟩ = some (.slice (some ⟨g, 0, none⟩) n c) := k1.cell 1
  have x2 := k1.free 1
  have x3 : (w2.setCell ⟨N, 1, none⟩ (.slice (some ⟨g, 0, none⟩) m c)).cell? ⟨N, 1, none⟩ = some (.slice (some ⟨g, 0, none⟩) m c) := k2.1.cell 1
  have HK2 := Lib.hid k2
  have HC4 := Lib.hid h4
  clear h3 h4 k1 k2
  go_wp2_with fail
  go_ret
  refine ⟨_, rfl, HK2.out, ?_⟩
  have d1 : Chg (OwnN N (.slice (some ⟨g, 0, none⟩) n c)) w w2 := (Chg.of_below HBA.out).trans HC4.out (fun k _ e => by subst e; exact Or.inr rfl)
  exact Chg.put d1 (by exact Or.inl (Or.inl rfl)) _
end Go.Proofs.Ytiooikjaalphiaa
