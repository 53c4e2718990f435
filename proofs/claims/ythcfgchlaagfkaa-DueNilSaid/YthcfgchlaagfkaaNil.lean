/-
  The walk of DueNil. No condition.
-/
import Derived.Test.YthcfgchlaagfkaaLives
namespace Go.Proofs.Ythcfgchlaagfkaa
open Go.ChangeShapes Go.WideShapes Go.ChangeAt Go.RowKit
set_option linter.unusedVariables false
set_option linter.unusedSimpArgs false

theorem Dead.later {w w' : World} {x : Value} (h : Dead w x) (hb : Below w.heap.size w w') : Dead w' x := fun w2 h2 => h w2 (hb.trans (h2.mono hb.size))
set_option maxHeartbeats 3200000 in
theorem nil_walk (a id : Int) (w : World) : Calls Try.prog 5 #[.int .i64 a, .int .i64 id] w fun e w' => e = .returned (.bool true) ∧ Below w.heap.size w w' := by
  obtain ⟨wn, hwn⟩ : ∃ wn, w.alloc (.cells #[.bool false, .slice none 0 0, .int .i64 0] 46) = wn := ⟨_, rfl⟩
  have hb0 : Below w.heap.size w wn := by rw [← hwn]; exact (Below.refl _ _).alloc (Nat.le_refl _) _
  have hd : NoQueue wn (.pointer (some ⟨w.heap.size, 0, none⟩)) := by rw [← hwn]; exact Or.inr ⟨_, rfl, Blk.new _ _ _⟩
  have hq : NoQueue wn (.pointer none) := Or.inl rfl
  have HA1 := Lib.hid (add_none _ a id hq)
  have HA2 := Lib.hid (add_none _ a id hd)
  have DQ := Lib.hid hq.dead
  have DD := Lib.hid hd.dead
  have HP1 := Lib.hid (peek_dead _ DQ.out)
  have HP2 := Lib.hid (peek_dead _ DD.out)
  have HN1 := Lib.hid (next_dead _ a DQ.out)
  have HN2 := Lib.hid (next_dead _ a DD.out)
  have HL1 := Lib.hid (len_none _ _ hq)
  have HL2 := Lib.hid (len_none _ _ hd)
  have HR1 := Lib.hid (remove_dead _ id DQ.out)
  have HB0 := Lib.hid hb0
  clear hq hd hb0
  go_enter Try.func5, Try.ntmps5
  go_wp2_with fail
  refine HA1.out.mono ?_; rintro e w1 ⟨⟨r, rfl⟩, rfl⟩
  clear HA1
  go_wp2_with fail
  refine HA2.out.mono ?_; rintro e w1 ⟨⟨r2, rfl⟩, rfl⟩
  clear HA2
  go_wp2_with fail
  refine HP1.out.mono ?_; rintro e w1 ⟨rfl, rfl⟩
  clear HP1
  go_wp2_with fail
  refine HP2.out.mono ?_; rintro e w1 ⟨rfl, rfl⟩
  clear HP2
  go_wp2_with fail
  refine HN1.out.mono ?_; rintro e w1 ⟨rfl, rfl⟩
  clear HN1
  go_wp2_with fail
  refine HN2.out.mono ?_; rintro e w1 ⟨rfl, rfl⟩
  clear HN2
  go_wp2_with fail
  refine HL1.out.mono ?_; rintro e w1 ⟨rfl, rfl⟩
  clear HL1
  go_wp2_with fail
  refine HL2.out.mono ?_; rintro e w1 ⟨rfl, rfl⟩
  clear HL2
  go_wp2_with fail
  refine HR1.out.mono ?_; rintro e w1 ⟨rfl, h1⟩
  have H1 := Lib.hid h1
  have D1 := Lib.hid (DD.out.later h1)
  have Q1 := Lib.hid (DQ.out.later h1)
  have HR2 := Lib.hid (remove_dead _ id D1.out)
  clear h1 HR1
  go_wp2_with fail
  refine HR2.out.mono ?_; rintro e w2 ⟨rfl, h2⟩
  have H2 := Lib.hid h2
  have HY1 := Lib.hid (all_dead _ (Q1.out.later h2))
  have HY2 := Lib.hid (all_dead _ (D1.out.later h2))
  have HLV := Lib.hid (lives_any w2)
  clear h2 HR2
  go_wp2_with fail
  refine HY1.out.mono ?_; rintro e w3 ⟨rfl, rfl⟩
  clear HY1
  go_wp2_with fail
  refine HY2.out.mono ?_; rintro e w3 ⟨rfl, rfl⟩
  clear HY2
  go_wp2_with fail
  refine HLV.out.mono ?_; rintro e w3 ⟨rfl, h3⟩
  have H3 := Lib.hid h3
  clear h3
  go_wp2_with fail
  go_returns
  have s1 := HB0.out.size
  have s2 := H1.out.size
  have s3 := H2.out.size
  exact ⟨rfl, ((HB0.out.trans (H1.out.mono s1)).trans (H2.out.mono (Nat.le_trans s1 s2))).trans (H3.out.mono (Nat.le_trans (Nat.le_trans s1 s2) s3))⟩
end Go.Proofs.Ythcfgchlaagfkaa
