/-
  The document's net: the walk of Age. No condition.
-/
import Derived.Test.YtiooikjaalphiaaRefDouble
namespace Go.Proofs.Ytiooikjaalphiaa
open Go.ChangeShapes Go.WideShapes Go.ChangeAt Go.RowKit
set_option linter.unusedVariables false
set_option linter.unusedSimpArgs false

/-- Those that are not too old. -/
def young (now : Int) (rl : List (List Int × Int)) : List (List Int × Int) := rl.filter (fun x => !old now x.2)
theorem young_len (now : Int) (rl : List (List Int × Int)) : (young now rl).length ≤ rl.length := List.length_filter_le _ _
theorem young_snoc (now : Int) (rl : List (List Int × Int)) (i : Nat) (h : i < rl.length) : young now (rl.take (i + 1)) = if old now rl[i].2 = true then young now (rl.take i) else young now (rl.take i) ++ [rl[i]] := by
  unfold young
  rw [List.take_add_one, List.getElem?_eq_getElem h, List.filter_append]
  by_cases ho : old now rl[i].2 = true <;> simp [ho]
def AgePost (w : World) (B : Nat) (rl : List (List Int × Int)) (now lost : Int) (e : Ending) (w' : World) : Prop := ∃ A c m, m = (young now rl).length ∧ e = .returned (.tuple #[.agg #[.slice A m c, .int .i64 lost], .int .i64 ((rl.length : Int) - (m : Int))]) ∧ RefIs w' B (.slice A m c) (young now rl) ∧ Below w.heap.size w w'
theorem sub_w64 (a b : Nat) (h : a ≤ 1000000) (h2 : b ≤ 1000000) : wrap64 ((a : Int) - (b : Int)) = (a : Int) - (b : Int) := IntWalk.wrap64_in _ (by omega)
theorem sub_i64 (a b : Nat) (h : a ≤ 1000000) (h2 : b ≤ 1000000) : IntKind.i64.wrap ((a : Int) - (b : Int)) = (a : Int) - (b : Int) := IntWalk.i64_in _ (by omega)
theorem sub_w64i {a b : Int} (h : small a) (h2 : small b) : wrap64 (a - b) = a - b := by unfold small at h h2; exact IntWalk.wrap64_in _ (by omega)
theorem sub_i64i {a b : Int} (h : small a) (h2 : small b) : IntKind.i64.wrap (a - b) = a - b := by unfold small at h h2; exact IntWalk.i64_in _ (by omega)
theorem old_no {now b : Int} (h : now - b < 8) : old now b = false := by unfold old; simp; omega
theorem old_yes {now b : Int} (h : ¬ now - b < 8) : old now b = true := by unfold old; simp; omega
set_option maxHeartbeats 1600000 in
theorem refAge_any (A : Option Addr) (c B : Nat) (rl : List (List Int × Int)) (lost now : Int) (w : World) (h : RefIs w B (.slice A rl.length c) rl) (hB : B ≤ w.heap.size) (hn : rl.length ≤ 900) (h1 : small now) (h2 : ∀ x ∈ rl, small x.2) :
    Calls Try.prog 14 #[.agg #[.slice A rl.length c, .int .i64 lost], .int .i64 now] w (AgePost w B rl now lost) := by
  have HR := Lib.hid h
  have HS := Lib.hid h2
  have H1 := Lib.hid h1
  obtain ⟨n, hN⟩ : ∃ n, rl.length = n := ⟨_, rfl⟩
  have HN := Lib.hid hN
  rw [hN] at hn HR ⊢
  have K0 : Hid (Blk ((w.alloc (.cells #[.slice A n c, .int .i64 lost] 27)).alloc (.cells #[.slice none 0 0, .int .i64 0] 27)) w.heap.size 27 #[.slice A n c, .int .i64 lost]) := (Blk.new w 27 _).more _
  have K1 : Hid (Blk ((w.alloc (.cells #[.slice A n c, .int .i64 lost] 27)).alloc (.cells #[.slice none 0 0, .int .i64 0] 27)) (w.heap.size + 1) 27 #[.slice none 0 0, .int .i64 0]) := Blk.newAt _ 27 _ _ (by simp)
  have KB : Hid (Below w.heap.size w ((w.alloc (.cells #[.slice A n c, .int .i64 lost] 27)).alloc (.cells #[.slice none 0 0, .int .i64 0] 27))) := ((Below.refl _ _).alloc (Nat.le_refl _) _).alloc (by simp) _
  have hsz : ((w.alloc (.cells #[.slice A n c, .int .i64 lost] 27)).alloc (.cells #[.slice none 0 0, .int .i64 0] 27)).heap.size = w.heap.size + 2 := by simp
  obtain ⟨wa, hwaE⟩ : ∃ wa, (w.alloc (.cells #[.slice A n c, .int .i64 lost] 27)).alloc (.cells #[.slice none 0 0, .int .i64 0] 27) = wa := ⟨_, rfl⟩
  rw [hwaE] at K0 K1 KB hsz
  have HWE := Lib.hid hwaE
  have HSZ := Lib.hid (Nat.le_of_eq hsz.symm)
  clear h h1 h2 hN hwaE hsz
  go_enter Try.func14, Try.ntmps14
  go_upto_region 1 with fail
  rw [HWE.out]
  go_wp2_with fail
  go_loopg [6, 7] (n + 1) (fun gk s6 s7 wr => ∃ (i m c' : Nat) (A' : Option Addr), s6 = .slice A' m c' ∧ s7 = .int .i64 i ∧ gk + i = n + 1 ∧ i ≤ n ∧ m ≤ i ∧ Hid (m = (young now (rl.take i)).length ∧ RefIs wr wa.heap.size (.slice A' m c') (young now (rl.take i)) ∧ Below wa.heap.size wa wr))
  case atStart => exact ⟨0, 0, 0, none, rfl, rfl, by omega, by omega, by omega, rfl, World.ownsRow_nil _ _ _ _, Below.refl _ _⟩
  case round =>
    obtain ⟨i, m, c', A', rfl, rfl, hgi, hin, hmi, HI⟩ := hrel
    have J0 := Lib.hid (K0.out.below HI.out.2.2 K0.out.lt)
    have J1 := Lib.hid (K1.out.below HI.out.2.2 K1.out.lt)
    have y0 : wr.cell? ⟨w.heap.size, 0, none⟩ = some (.slice A n c) := (J0.out.cell 0).trans rfl
    have y1 : wr.cell? ⟨w.heap.size, 1, none⟩ = some (.int .i64 lost) := (J0.out.cell 1).trans rfl
    by_cases hlt : i < n
    · have hil : i < rl.length := by have := HN.out; omega
      have hrr := HR.out
      obtain ⟨g, rfl, hnn, hc1, hc2, hg1, hg2, hcl⟩ := hrr.some_ (by have := HN.out; omega)
      have hat := flatR_at rl i hil
      have hbw : Below w.heap.size w wr := KB.out.trans (HI.out.2.2.mono KB.out.size)
      have x0 : wr.cell? ⟨g, i * 2, none⟩ = some (.string (strOfNums rl[i].1)) := (hbw.cell (p := ⟨g, _, none⟩) hg2).trans (hcl _ _ hat.1)
      have x1 : wr.cell? ⟨g, i * 2 + 1, none⟩ = some (.int .i64 rl[i].2) := (hbw.cell (p := ⟨g, _, none⟩) hg2).trans (hcl _ _ hat.2)
      have e1 := sub_w64i H1.out (HS.out rl[i] (List.getElem_mem hil))
      have e2 := sub_i64i H1.out (HS.out rl[i] (List.getElem_mem hil))
      have hyg := young_snoc now rl i hil
      have HY := Lib.hid hyg
      generalize rl[i] = p at *
      have b1 : (0 : Int) ≤ (i : Int) := Int.natCast_nonneg i
      have b2 : (i : Int) < (n : Int) := Int.ofNat_lt.2 hlt
      have b3 := succ_w64 i (by omega)
      clear hat hrr hcl hyg hc2 hnn
      by_cases ho : now - p.2 < 8
      · have t1 : decide (now - p.2 < 8) = true := by simpa using ho
        have HY2 : Hid (young now (rl.take (i + 1)) = young now (rl.take i) ++ [p]) := by
          unfold Hid
          rw [HY.out, old_no ho, if_neg (by decide)]
        go_wp2_with (at_builtin; refine wpList_ref_join _ rfl _ _ rfl rfl _ _ rfl rfl wa.heap.size (young now (rl.take i)) [p] (HI.out.2.1.later ((Below.refl wr.heap.size wr).alloc (Nat.le_refl _) _)) (ref_one wr p) (m + 1) ?_ ?_ ?_ wa (HI.out.2.2.alloc HI.out.2.2.size _) ?_)
        · clear e1 e2 b3; have := HI.out.1; simp; omega
        · clear e1 e2 b3; have := HI.out.2.2.size; simp; omega
        · clear e1 e2 b3; omega
        clear e1 e2
        intro A3 c3 w3 h3 hb3
        have HH : Hid (RefIs w3 wa.heap.size (.slice A3 (m + 1) c3) (young now (rl.take (i + 1))) ∧ Below wa.heap.size wa w3 ∧ m + 1 = (young now (rl.take (i + 1))).length) := by
          unfold Hid
          rw [HY2.out]
          exact ⟨h3, hb3, by have := HI.out.1; simp; omega⟩
        clear h3 hb3
        go_wp2_with fail
        clear b3
        go_roundg (gk - 1)
        case rel => exact ⟨i + 1, m + 1, c3, A3, by go_num, by go_num, by omega, by omega, by omega, HH.out.2.2, HH.out.1, HH.out.2.1⟩
        case measure => omega
      · have t1 : decide (now - p.2 < 8) = false := by simpa using ho
        have HY2 : Hid (young now (rl.take (i + 1)) = young now (rl.take i)) := by
          unfold Hid
          rw [HY.out, old_yes ho, if_pos rfl]
        go_wp2_with fail
        clear b3 e1 e2
        go_roundg (gk - 1)
        case rel =>
          refine ⟨i + 1, m, c', A', rfl, by go_num, by omega, by omega, by omega, ?_⟩
          unfold Hid
          rw [HY2.out]
          exact HI.out
        case measure => omega
    · obtain rfl : i = n := by omega
      have e1 := sub_w64 i m (by omega) (by omega)
      have e2 := sub_i64 i m (by omega) (by omega)
      have z0 := J0.out.free 0
      have z1 : wr.cell? ⟨w.heap.size + 1, 0, none⟩ = some (.slice none 0 0) := (J1.out.cell 0).trans rfl
      have z2 : wr.cell? ⟨w.heap.size + 1, 1, none⟩ = some (.int .i64 0) := (J1.out.cell 1).trans rfl
      have z3 := J1.out.free 0
      have z4 := J1.out.free 1
      have b1 : (0 : Int) ≤ (m : Int) := Int.natCast_nonneg m
      go_wp2_with fail
      clear e1 e2
      refine bodyPost_ret (results_cell_tmp' rfl _ _ (w.heap.size + 1) 27 #[.slice A' m c', .int .i64 lost] _ _ rfl (((Blk.away J1.out (by show w.heap.size + 1 ≠ w.heap.size; omega) _).put 0 _ rfl).put 1 _ rfl) Try.underlying27 rfl size27) rfl ?_
      have hi := HI.out
      have hs := HSZ.out
      rw [List.take_of_length_le (by have := HN.out; omega)] at hi
      refine ⟨A', c', m, hi.1, by rw [HN.out]; rfl, ?_, ?_⟩
      · refine RefIs.base (B := wa.heap.size) ?_ (by omega)
        exact ref_away (ref_away (ref_away hi.2.1 _ _ (by show w.heap.size < wa.heap.size; omega)) _ _ (by show w.heap.size + 1 < wa.heap.size; omega)) _ _ (by show w.heap.size + 1 < wa.heap.size; omega)
      · exact (((KB.out.trans (hi.2.2.mono KB.out.size)).setCell (Nat.le_refl _) _).setCell (Nat.le_succ _) _).setCell (Nat.le_succ _) _
end Go.Proofs.Ytiooikjaalphiaa
