/-
  The walk of NetPlays. No condition beyond what the slice that came in is.
-/
import Derived.Test.YtiooikjaalphiaaParts
import Derived.Deep.CutBlock
namespace Go.Proofs.Ytiooikjaalphiaa
open Go.ChangeShapes Go.WideShapes Go.ChangeAt Go.RowKit
set_option linter.unusedVariables false
set_option linter.unusedSimpArgs false

set_option maxRecDepth 100000 in
set_option maxHeartbeats 12800000 in
theorem plays_walk (A : Option Addr) (len cap : Nat) (w : World) (hr : OpsIn w A len) (hlen : len ≤ 9223372036854775807) :
    Calls Try.prog 3 #[.slice A len cap] w fun e w' => e = .returned (.bool true) ∧ Below w.heap.size w w' := by
  have HR := Lib.hid hr
  clear hr
  go_enter Try.func3, Try.ntmps3
  go_wp2_with fail
  refine (new_any _).mono ?_; rintro e w1 ⟨N, rfl, h1, hN, hb1⟩
  have hnlt := h1.1.lt
  have hw1 := hb1.size
  have S0 : Hid (Cs w N w1.heap.size (w1.heap.size + 1) ∧ St w N w1.heap.size (w1.heap.size + 1) (.slice none 0 0) [] 0 (.slice none 0 0) [] 0 (w1.alloc (.cells #[.slice none 0 0, .int .i64 0] 27))) := by
    have h2 := h1.other ((Below.refl _ _).alloc (Nat.le_refl _) (.cells #[.slice none 0 0, .int .i64 0] 27))
    exact ⟨⟨hN, hw1, by omega, by omega⟩, ⟨⟨h2.1, World.ownsRow_nil _ _ _ _, by simp, by omega, by simp⟩, Blk.new _ _ _, World.ownsRow_nil _ _ _ _, hb1.alloc hw1 _⟩⟩
  clear h1 hN hb1
  obtain ⟨V, hV⟩ : ∃ V, w1.heap.size = V := ⟨_, rfl⟩
  go_wp2_with fail
  rw [hV] at S0
  have hVw : w.heap.size ≤ V := hV ▸ hw1
  clear hV hnlt hw1
  have HC := Lib.hid S0.out.1
  go_loopg [5, 6, 7, 8, 9, 10, 11, 12, 13, 14, 15, 16, 17, 18] 201 (fun gk s5 s6 s7 s8 s9 s10 s11 s12 s13 s14 s15 s16 s17 s18 wr => ∃ (i c' : Nat) (v : Value) (ps : List Pk) (A' : Option Addr) (rl : List (List Int × Int)) (lost : Int), s5 = .int .i64 i ∧ gk + i = 201 ∧ i ≤ len ∧ i ≤ 200 ∧ Hid (St w N V (V + 1) v ps lost (.slice A' rl.length c') rl lost wr ∧ Fine ps rl lost i))
  case atStart => exact ⟨0, 0, _, [], none, [], 0, rfl, by omega, by omega, by omega, S0.out.2, ⟨rfl, by simp, by omega, by omega, by simp⟩⟩
  case round =>
    obtain ⟨i, c', v, ps, A', rl, lost, rfl, hgi, hin, hih, HI⟩ := hrel
    clear S0
    by_cases hlt : i < len
    · by_cases h200 : i < 200
      · obtain ⟨g, o, rfl, hg, hc⟩ := HR.out (by omega)
        obtain ⟨K, X, Bo, m, cc, bs, z0, z1, z2, hK, hrow, hmc, hm, hnil⟩ := hc i hlt
        have x0 : wr.cell? ⟨g, o + i * 3, none⟩ = some (.int .i64 K) := (HI.out.1.bel.cell (p := ⟨g, _, none⟩) hg).trans z0
        have x1 : wr.cell? ⟨g, o + i * 3 + 1, none⟩ = some (.slice Bo m cc) := (HI.out.1.bel.cell (p := ⟨g, _, none⟩) hg).trans z1
        have x2 : wr.cell? ⟨g, o + i * 3 + 2, none⟩ = some (.int .i64 X) := (HI.out.1.bel.cell (p := ⟨g, _, none⟩) hg).trans z2
        clear hc z0 z1 z2
        have HROW := Lib.hid hrow
        have HNIL := Lib.hid hnil
        clear hnil hrow
        cases hfit : fits X with
        | false =>
          have HF := Lib.hid hfit
          go_wp2_with (first
            | (go_at_call 6; refine (small_any X _).mono ?_; rintro e w' ⟨rfl, rfl⟩; rw [HF.out])
            | (go_at_call 7; refine (lives_any _).mono ?_; rintro e w5 ⟨rfl, h5⟩; have H5 := Lib.hid h5; clear h5))
          go_ret
          exact ⟨rfl, (HI.out.1.bel.alloc HI.out.1.bel.size _).trans (H5.out.mono (by have := HI.out.1.bel.size; simp; omega))⟩
        | true =>
          have HF := Lib.hid hfit
          have hX : -10000 ≤ X ∧ X ≤ 10000 := by simpa [fits] using hfit
          clear hfit
          have K0 : Hid (Blk (wr.alloc (.cells #[.int .i64 K, .slice Bo m cc, .int .i64 X] 30)) wr.heap.size 30 #[.int .i64 K, .slice Bo m cc, .int .i64 X]) := Blk.new _ _ _
          have SA : Hid (St w N V (V + 1) v ps lost (.slice A' rl.length c') rl lost (wr.alloc (.cells #[.int .i64 K, .slice Bo m cc, .int .i64 X] 30))) := HI.out.1.later ((Below.refl _ _).alloc (Nat.le_refl _) _)
          have FI := Lib.hid HI.out.2
          have hob : wr.heap.size < (wr.alloc (.cells #[.int .i64 K, .slice Bo m cc, .int .i64 X] 30)).heap.size := by simp
          go_upto_block 2 with (go_at_call 6; refine (small_any X _).mono ?_; rintro e w' ⟨rfl, rfl⟩; rw [HF.out])
          obtain ⟨ob, hob⟩ : ∃ ob, wr.heap.size = ob := ⟨_, rfl⟩
          obtain ⟨wa, hwa⟩ : ∃ wa, wr.alloc (.cells #[.int .i64 K, .slice Bo m cc, .int .i64 X] 30) = wa := ⟨_, rfl⟩
          rw [hwa] at K0 SA ⊢
          rw [hob] at K0 ⊢
          clear hob hwa x0 x1 x2 HI
          go_cut [7, 8, 9, 10, 11, 12, 13, 14, 15, 16, 17, 18] (fun s7 s8 s9 s10 s11 s12 s13 s14 s15 s16 s17 s18 wx => ∃ (c2 : Nat) (v2 : Value) (ps2 : List Pk) (A2 : Option Addr) (rl2 : List (List Int × Int)) (lost2 : Int), Hid (St w N V (V + 1) v2 ps2 lost2 (.slice A2 rl2.length c2) rl2 lost2 wx ∧ Fine ps2 rl2 lost2 (i + 1)))
          case first =>
            have k1 : wa.cell? ⟨ob, 1, none⟩ = some (.slice Bo m cc) := (K0.out.cell 1).trans rfl
            have k2 : wa.cell? ⟨ob, 2, none⟩ = some (.int .i64 X) := (K0.out.cell 2).trans rfl
            have v0 : wa.cell? ⟨V, 0, none⟩ = some (.slice A' rl.length c') := (SA.out.blk.cell 0).trans rfl
            have v1 : wa.cell? ⟨V, 1, none⟩ = some (.int .i64 lost) := (SA.out.blk.cell 1).trans rfl
            by_cases p1 : 0 ≤ K.tmod 6
            · have q1 : decide (0 ≤ K.tmod 6) = true := by simpa using p1
              by_cases p2 : K.tmod 6 ≤ 2
              · have q2 : decide (K.tmod 6 ≤ 2) = true := by simpa using p2
                have hcv := conv_row Bo m cc bs wa (HROW.out.later SA.out.bel) HNIL.out
                go_wp2_with fail
                refine (refPut_any A' c' (V + 1) rl lost (bs, X) wa SA.out.ref SA.out.size (by have := FI.out.few; omega) ⟨FI.out.lo, by have := FI.out.hi; omega⟩).mono ?_
                rintro e w2 ⟨A2, c2, rfl, R2, b2⟩
                have b3 : Below wa.heap.size wa (w2.alloc (.cells #[.slice A2 (putL rl (bs, X)).length c2, .int .i64 (putN rl.length lost)] 27)) := b2.alloc b2.size _
                have S3 := SA.out.later b3
                have f0 := S3.blk.free 0
                have f1 := S3.blk.free 1
                have g0 := (S3.blk.cell 0).trans rfl
                have g1 := (S3.blk.cell 1).trans rfl
                have S4 := Lib.hid (S3.store HC.out (R2.later ((Below.refl _ _).alloc (Nat.le_refl _) (.cells #[.slice A2 (putL rl (bs, X)).length c2, .int .i64 (putN rl.length lost)] 27))) (l3 := putN rl.length lost))
                have K3 := K0.out.below b3 K0.out.lt
                have K4 := S3.store_blk (y := .slice A2 (putL rl (bs, X)).length c2) (z := .int .i64 (putN rl.length lost)) K3 (by decide)
                have K4H := Lib.hid K4
                have j1 := (K4.cell 1).trans rfl
                have j2 := (K4.cell 2).trans rfl
                have HP := put_net Bo m cc bs X S4.out.net (by have := FI.out.len; have := FI.out.few; omega) ⟨FI.out.lo, by have := FI.out.hi; omega⟩ (HROW.out.later S4.out.bel) hm hmc
                rw [FI.out.len, FI.out.say] at HP
                have HPH := Lib.hid HP
                clear k1 k2 v0 v1 R2 S3 hcv K3 K4 HP
                go_wp2_with fail
                refine HPH.out.mono ?_; rintro e w5 ⟨v5, qs, rfl, N5, Q5, C5⟩
                have S5 := Lib.hid (S4.out.call HC.out N5 C5)
                have QH := Lib.hid Q5
                have sb : (decide (rl.length < 120) != decide (rl.length < 120)) = false := by simp
                clear N5 Q5 C5 f0 f1 g0 g1 j1 j2 b2 b3
                go_wp2_with fail
                go_meet
                exact ⟨c2, v5, qs, A2, putL rl (bs, X), putN rl.length lost, S5.out, FI.out.put QH.out ⟨by have := HROW.out.1; show bs.length ≤ _; omega, hX⟩⟩
              · have q2 : decide (K.tmod 6 ≤ 2) = false := by simpa using p2
                by_cases p3 : K.tmod 6 = 3
                · have q3 : (K.tmod 6 == 3) = true := by simpa using p3
                  by_cases hz : rl.length = 0
                  · have hrl : rl = [] := List.eq_nil_of_length_eq_zero hz
                    have hps : ps = [] := List.eq_nil_of_length_eq_zero (by rw [FI.out.len]; exact hz)
                    subst hrl hps
                    go_wp2_with fail
                    have HT := refTake_zero c' A' lost X wa
                    rw [show strOfNums [] = ByteArray.empty from rfl] at HT
                    refine HT.mono ?_; rintro e w2 ⟨rfl, b2⟩
                    have b3 : Below wa.heap.size wa ((w2.alloc (.cells #[.slice A' 0 c', .int .i64 lost] 27)).alloc (.cells #[.string ByteArray.empty, .int .i64 0] 36)) := (b2.alloc b2.size _).alloc (by have := b2.size; simp; omega) _
                    have S3 := SA.out.later b3
                    have f0 := S3.blk.free 0
                    have f1 := S3.blk.free 1
                    have g0 := (S3.blk.cell 0).trans rfl
                    have g1 := (S3.blk.cell 1).trans rfl
                    have S4 := Lib.hid (S3.store HC.out S3.ref (l3 := lost))
                    have K3 := K0.out.below b3 K0.out.lt
                    have K4 := S3.store_blk (y := .slice A' 0 c') (z := .int .i64 lost) K3 (by decide)
                    have T3 : Blk ((w2.alloc (.cells #[.slice A' 0 c', .int .i64 lost] 27)).alloc (.cells #[.string ByteArray.empty, .int .i64 0] 36)) (w2.heap.size + 1) 36 #[.string ByteArray.empty, .int .i64 0] := Blk.newAt _ 36 _ _ (by simp)
                    have T4 := Lib.hid (S3.store_blk (y := .slice A' 0 c') (z := .int .i64 lost) T3 (by decide))
                    have j2 := (K4.cell 2).trans rfl
                    have HPH := Lib.hid (take_zero X S4.out.net)
                    have HCN : Hid (∀ W : World, (convert 28 9 (.slice none 0 0)).run Try.prog W = .ok (.string ByteArray.empty) W) := fun W => run_convert_bytes_nil (w := W) 28 5 Try.underlying28 Try.underlying5 0 0 9 Try.underlying9
                    clear k1 k2 v0 v1 S3 K3 K4 T3 HT hz
                    go_wp2_with fail
                    refine HPH.out.mono ?_; rintro e w5 ⟨rfl, b5⟩
                    have S5 := Lib.hid (S4.out.later (b5.alloc b5.size (.cells #[.slice none 0 0, .int .i64 0] 41)))
                    have T5 := T4.out.below (b5.alloc b5.size (.cells #[.slice none 0 0, .int .i64 0] 41)) T4.out.lt
                    have m0 := (T5.cell 0).trans rfl
                    have m1 := (T5.cell 1).trans rfl
                    have hcn := HCN.out (w5.alloc (.cells #[.slice none 0 0, .int .i64 0] 41))
                    clear b5 T5 f0 f1 g0 g1 j2 b2 b3
                    go_wp2_with fail
                    go_meet
                    exact ⟨c', v, [], A', [], lost, S5.out, FI.out.next⟩
                  · obtain ⟨k, hk⟩ : ∃ k : Nat, X % (rl.length : Nat) = k := Int.eq_ofNat_of_zero_le (Int.emod_nonneg _ (by omega))
                    have hkl : k < rl.length := by have := Int.emod_lt_of_pos X (show (0 : Int) < (rl.length : Nat) by omega); omega
                    have hsplit : ∃ a p b c x d, ps = a ++ p :: b ∧ rl = c ++ x :: d ∧ a.length = k ∧ c.length = k ∧ sayL a = c ∧ p.says = x ∧ sayL b = d := by
                      obtain ⟨a, p, b, c, x, d, h1, h2, h3, h4, h5, h6, h7, _⟩ := FI.out.split k hkl
                      exact ⟨a, p, b, c, x, d, h1, h2, h3, h4, h5, h6, h7⟩
                    obtain ⟨a, p, b, la, x, lb, rfl, rfl, ha, hla, sa, sp, sb⟩ := hsplit
                    have sp' : x = (p.bs, p.born) := sp.symm
                    subst sp'
                    have hfew := FI.out.few
                    have hll : la.length + lb.length < 200 := by simp at hfew; omega
                    have hk2 : X % ((la ++ (p.bs, p.born) :: lb).length : Nat) = la.length := by rw [hk, hla]
                    have hrd := refTake_any A' c' (V + 1) la lb (p.bs, p.born) lost X wa SA.out.ref SA.out.size hll (by omega) hk2
                    dsimp only at hrd
                    have HRD := Lib.hid hrd
                    clear hrd sp
                    have hpl : (a ++ p :: b).length = (la ++ (p.bs, p.born) :: lb).length := FI.out.len
                    have hk3 : Hid (X % ((a ++ p :: b).length : Nat) = a.length) := by unfold Hid; rw [hpl, hk, ha]
                    have HLL : Hid (a.length + b.length < 200) := by unfold Hid; simp at hpl hfew; omega
                    have SAB : Hid (sayL a = la ∧ sayL b = lb) := ⟨sa, sb⟩
                    clear hk hkl ha hla sa sb hpl hfew hll hk2 hz
                    obtain ⟨L, hL⟩ : ∃ L, (la ++ (p.bs, p.born) :: lb).length = L := ⟨_, rfl⟩
                    rw [hL] at HRD v0
                    clear hL
                    go_wp2_with fail
                    refine HRD.out.mono ?_; rintro e w2 ⟨A2, c2, rfl, R2, b2⟩
                    have b3 : Below wa.heap.size wa ((w2.alloc (.cells #[.slice A2 (la.length + lb.length) c2, .int .i64 lost] 27)).alloc (.cells #[.string (strOfNums p.bs), .int .i64 p.born] 36)) := (b2.alloc b2.size _).alloc (by have := b2.size; simp; omega) _
                    have b4 : Below w2.heap.size w2 ((w2.alloc (.cells #[.slice A2 (la.length + lb.length) c2, .int .i64 lost] 27)).alloc (.cells #[.string (strOfNums p.bs), .int .i64 p.born] 36)) := ((Below.refl _ _).alloc (Nat.le_refl _) _).alloc (by simp) _
                    have S3 := SA.out.later b3
                    have f0 := S3.blk.free 0
                    have f1 := S3.blk.free 1
                    have g0 := (S3.blk.cell 0).trans rfl
                    have g1 := (S3.blk.cell 1).trans rfl
                    have S4 := Lib.hid (S3.store HC.out (R2.later b4) (l3 := lost))
                    have K3 := K0.out.below b3 K0.out.lt
                    have K4 := S3.store_blk (y := .slice A2 (la.length + lb.length) c2) (z := .int .i64 lost) K3 (by decide)
                    have T3 : Blk ((w2.alloc (.cells #[.slice A2 (la.length + lb.length) c2, .int .i64 lost] 27)).alloc (.cells #[.string (strOfNums p.bs), .int .i64 p.born] 36)) (w2.heap.size + 1) 36 #[.string (strOfNums p.bs), .int .i64 p.born] := Blk.newAt _ 36 _ _ (by simp)
                    have T4 := Lib.hid (S3.store_blk (y := .slice A2 (la.length + lb.length) c2) (z := .int .i64 lost) T3 (by decide))
                    have j2 := (K4.cell 2).trans rfl
                    have HPH := Lib.hid (take_any X a b p S4.out.net HLL.out (by omega) hk3.out)
                    clear k1 k2 v0 v1 S3 K3 K4 T3 R2
                    go_wp2_with fail
                    refine HPH.out.mono ?_; rintro e w5 ⟨v5, rfl, N5, L5, C5⟩
                    obtain ⟨m5, hm5⟩ : ∃ m5, p.bs.length = m5 := ⟨_, rfl⟩
                    have HM5 := Lib.hid hm5
                    have S5 := (S4.out.call HC.out N5 C5).later ((Below.refl _ _).alloc (Nat.le_refl _) (.cells #[p.sl, .int .i64 p.born] 41))
                    have T5 := (S4.out.keeps C5 T4.out (by decide) (by decide)).more (.cells #[p.sl, .int .i64 p.born] 41)
                    have L6 : p.lies (w5.alloc (.cells #[p.sl, .int .i64 p.born] 41)) := Blk.more L5 _
                    have hcn := conv_pk p _ L6 m5 hm5
                    unfold Pk.sl at S5 T5 hcn ⊢
                    rw [hm5] at S5 T5 hcn ⊢
                    have S5H := Lib.hid S5
                    have m0 := (T5.cell 0).trans rfl
                    have m1 := (T5.cell 1).trans rfl
                    clear N5 L5 L6 C5 T5 S5 f0 f1 g0 g1 j2 b2 b3 b4 hm5
                    go_wp2_with fail
                    go_meet
                    refine ⟨c2, v5, a ++ b, A2, la ++ lb, lost, ?_, FI.out.sub (by have h1 := SAB.out.1; have h2 := SAB.out.2; unfold sayL at *; rw [List.map_append, h1, h2]) (by simp)⟩
                    rw [List.length_append]
                    exact S5H.out
                · have q3 : (K.tmod 6 == 3) = false := by simpa using p3
                  by_cases p4 : K.tmod 6 = 4
                  · have q4 : (K.tmod 6 == 4) = true := by simpa using p4
                    by_cases hz : rl.length = 0
                    · have hrl : rl = [] := List.eq_nil_of_length_eq_zero hz
                      have hps : ps = [] := List.eq_nil_of_length_eq_zero (by rw [FI.out.len]; exact hz)
                      subst hrl hps
                      go_wp2_with fail
                      refine (refDouble_zero c' A' lost X wa).mono ?_; rintro e w2 ⟨rfl, b2⟩
                      have b3 : Below wa.heap.size wa (w2.alloc (.cells #[.slice A' 0 c', .int .i64 lost] 27)) := b2.alloc b2.size _
                      have S3 := SA.out.later b3
                      have f0 := S3.blk.free 0
                      have f1 := S3.blk.free 1
                      have g0 := (S3.blk.cell 0).trans rfl
                      have g1 := (S3.blk.cell 1).trans rfl
                      have S4 := Lib.hid (S3.store HC.out S3.ref (l3 := lost))
                      have K3 := K0.out.below b3 K0.out.lt
                      have K4 := S3.store_blk (y := .slice A' 0 c') (z := .int .i64 lost) K3 (by decide)
                      have K4H := Lib.hid K4
                      have j1 := (K4.cell 1).trans rfl
                      have j2 := (K4.cell 2).trans rfl
                      have HPH := Lib.hid (double_zero X S4.out.net)
                      clear k1 k2 v0 v1 S3 K3 K4
                      go_wp2_with fail
                      refine HPH.out.mono ?_; rintro e w5 ⟨rfl, rfl⟩
                      go_wp2_with fail
                      go_meet
                      exact ⟨c', v, [], A', [], lost, S4.out, FI.out.next⟩
                    · obtain ⟨k, hk⟩ : ∃ k : Nat, X % (rl.length : Nat) = k := Int.eq_ofNat_of_zero_le (Int.emod_nonneg _ (by omega))
                      have hkl : k < rl.length := by have := Int.emod_lt_of_pos X (show (0 : Int) < (rl.length : Nat) by omega); omega
                      have hpl : ps.length = rl.length := FI.out.len
                      have HRD := Lib.hid (refDouble_any A' c' (V + 1) rl lost X k wa SA.out.ref SA.out.size (by have := FI.out.few; omega) ⟨FI.out.lo, by have := FI.out.hi; omega⟩ hkl (by omega) hk)
                      have hrk : rl[k] = (ps[k]'(by omega)).says := by
                        have := FI.out.say
                        subst this
                        simp [sayL]
                      have HX : Hid ((rl[k]).1.length ≤ 140737488355328 ∧ -10000 ≤ (rl[k]).2 ∧ (rl[k]).2 ≤ 10000) := FI.out.each _ (List.getElem_mem hkl)
                      rw [hrk] at HRD HX
                      obtain ⟨y, hy⟩ : ∃ y, (ps[k]'(by omega)).says = y := ⟨_, rfl⟩
                      rw [hy] at HRD HX
                      have HY : Hid ((ps[k]'(by omega)).says = y) := hy
                      have HKK : Hid (X % (rl.length : Nat) = k) := hk
                      clear hrk hy hk
                      go_wp2_with fail
                      refine HRD.out.mono ?_
                      rintro e w2 ⟨A2, c2, rfl, R2, b2⟩
                      have b3 : Below wa.heap.size wa (w2.alloc (.cells #[.slice A2 (putL rl y).length c2, .int .i64 (putN rl.length lost)] 27)) := b2.alloc b2.size _
                      have S3 := SA.out.later b3
                      have f0 := S3.blk.free 0
                      have f1 := S3.blk.free 1
                      have g0 := (S3.blk.cell 0).trans rfl
                      have g1 := (S3.blk.cell 1).trans rfl
                      have S4 := Lib.hid (S3.store HC.out (R2.later ((Below.refl _ _).alloc (Nat.le_refl _) (.cells #[.slice A2 (putL rl y).length c2, .int .i64 (putN rl.length lost)] 27))) (l3 := putN rl.length lost))
                      have K3 := K0.out.below b3 K0.out.lt
                      have K4 := S3.store_blk (y := .slice A2 (putL rl y).length c2) (z := .int .i64 (putN rl.length lost)) K3 (by decide)
                      have K4H := Lib.hid K4
                      have j1 := (K4.cell 1).trans rfl
                      have j2 := (K4.cell 2).trans rfl
                      have HP := double_any X k S4.out.net (by omega) (by have := FI.out.few; omega) (by omega) (by rw [hpl]; exact HKK.out) ⟨FI.out.lo, by have := FI.out.hi; omega⟩ FI.out.bytes
                      rw [HY.out, FI.out.say, hpl] at HP
                      have HPH := Lib.hid HP
                      clear k1 k2 v0 v1 R2 S3 K3 K4 HP
                      go_wp2_with fail
                      refine HPH.out.mono ?_; rintro e w5 ⟨v5, qs, rfl, N5, Q5, C5⟩
                      have S5 := Lib.hid (S4.out.call HC.out N5 C5)
                      have QH := Lib.hid Q5
                      have sb : (decide (rl.length < 120) != decide (rl.length < 120)) = false := by simp
                      clear N5 Q5 C5 f0 f1 g0 g1 j1 j2 b2 b3
                      go_wp2_with fail
                      go_meet
                      exact ⟨c2, v5, qs, A2, putL rl y, putN rl.length lost, S5.out, FI.out.put QH.out HX.out⟩
                  · have q4 : (K.tmod 6 == 4) = false := by simpa using p4
                    have hsx : small X := by unfold small; omega
                    have hrd := refAge_any A' c' (V + 1) rl lost X wa SA.out.ref SA.out.size (by have := FI.out.few; omega) hsx FI.out.smalls
                    have HRD := Lib.hid hrd
                    have HSX := Lib.hid hsx
                    clear hrd hsx
                    go_wp2_with fail
                    refine HRD.out.mono ?_; rintro e w2 ⟨A2, c2, m2, hm2, rfl, R2, b2⟩
                    have b3 : Below wa.heap.size wa (w2.alloc (.cells #[.slice A2 m2 c2, .int .i64 lost] 27)) := b2.alloc b2.size _
                    have S3 := SA.out.later b3
                    have f0 := S3.blk.free 0
                    have f1 := S3.blk.free 1
                    have g0 := (S3.blk.cell 0).trans rfl
                    have g1 := (S3.blk.cell 1).trans rfl
                    have S4 := Lib.hid (S3.store HC.out (R2.later ((Below.refl _ _).alloc (Nat.le_refl _) (.cells #[.slice A2 m2 c2, .int .i64 lost] 27))) (l3 := lost))
                    have K3 := K0.out.below b3 K0.out.lt
                    have K4 := S3.store_blk (y := .slice A2 m2 c2) (z := .int .i64 lost) K3 (by decide)
                    have j2 := (K4.cell 2).trans rfl
                    have HP := age_net X S4.out.net (by have := FI.out.few; have := FI.out.len; omega) HSX.out FI.out.borns
                    have hky : sayL (keepL X ps) = young X rl := by rw [keep_young, FI.out.say]
                    have hkl : (keepL X ps).length = m2 := by rw [hm2, ← hky]; simp [sayL]
                    rw [hkl, FI.out.len] at HP
                    have HPH := Lib.hid HP
                    have HKY := Lib.hid hky
                    have HM2 := Lib.hid hm2
                    clear k1 k2 v0 v1 R2 S3 K3 K4 HP hky hkl hm2
                    go_wp2_with fail
                    refine HPH.out.mono ?_; rintro e w5 ⟨v5, rfl, N5, C5⟩
                    have S5 := Lib.hid (S4.out.call HC.out N5 C5)
                    have sb : ((rl.length : Int) - (m2 : Int) != (rl.length : Int) - (m2 : Int)) = false := by simp
                    clear N5 C5 f0 f1 g0 g1 j2 b2 b3
                    go_wp2_with fail
                    go_meet
                    refine ⟨c2, v5, keepL X ps, A2, young X rl, lost, ?_, FI.out.sub HKY.out (by unfold young; exact List.filter_sublist)⟩
                    rw [← HM2.out]
                    exact S5.out
            · have q1 : decide (0 ≤ K.tmod 6) = false := by simpa using p1
              have q3 : (K.tmod 6 == 3) = false := by simp; omega
              have q4 : (K.tmod 6 == 4) = false := by simp; omega
              have hsx : small X := by unfold small; omega
              have hrd := refAge_any A' c' (V + 1) rl lost X wa SA.out.ref SA.out.size (by have := FI.out.few; omega) hsx FI.out.smalls
              have HRD := Lib.hid hrd
              have HSX := Lib.hid hsx
              clear hrd hsx
              go_wp2_with fail
              refine HRD.out.mono ?_; rintro e w2 ⟨A2, c2, m2, hm2, rfl, R2, b2⟩
              have b3 : Below wa.heap.size wa (w2.alloc (.cells #[.slice A2 m2 c2, .int .i64 lost] 27)) := b2.alloc b2.size _
              have S3 := SA.out.later b3
              have f0 := S3.blk.free 0
              have f1 := S3.blk.free 1
              have g0 := (S3.blk.cell 0).trans rfl
              have g1 := (S3.blk.cell 1).trans rfl
              have S4 := Lib.hid (S3.store HC.out (R2.later ((Below.refl _ _).alloc (Nat.le_refl _) (.cells #[.slice A2 m2 c2, .int .i64 lost] 27))) (l3 := lost))
              have K3 := K0.out.below b3 K0.out.lt
              have K4 := S3.store_blk (y := .slice A2 m2 c2) (z := .int .i64 lost) K3 (by decide)
              have j2 := (K4.cell 2).trans rfl
              have HP := age_net X S4.out.net (by have := FI.out.few; have := FI.out.len; omega) HSX.out FI.out.borns
              have hky : sayL (keepL X ps) = young X rl := by rw [keep_young, FI.out.say]
              have hkl : (keepL X ps).length = m2 := by rw [hm2, ← hky]; simp [sayL]
              rw [hkl, FI.out.len] at HP
              have HPH := Lib.hid HP
              have HKY := Lib.hid hky
              have HM2 := Lib.hid hm2
              clear k1 k2 v0 v1 R2 S3 K3 K4 HP hky hkl hm2
              go_wp2_with fail
              refine HPH.out.mono ?_; rintro e w5 ⟨v5, rfl, N5, C5⟩
              have S5 := Lib.hid (S4.out.call HC.out N5 C5)
              have sb : ((rl.length : Int) - (m2 : Int) != (rl.length : Int) - (m2 : Int)) = false := by simp
              clear N5 C5 f0 f1 g0 g1 j2 b2 b3
              go_wp2_with fail
              go_meet
              refine ⟨c2, v5, keepL X ps, A2, young X rl, lost, ?_, FI.out.sub HKY.out (by unfold young; exact List.filter_sublist)⟩
              rw [← HM2.out]
              exact S5.out
          case rest =>
          obtain ⟨c2, v2, ps2, A2, rl2, lost2, HI2⟩ := hcut
          clear SA K0 FI c' v ps A' rl lost
          have e0 : wc.cell? ⟨V, 0, none⟩ = some (.slice A2 rl2.length c2) := (HI2.out.1.blk.cell 0).trans rfl
          have e1 : wc.cell? ⟨V, 1, none⟩ = some (.int .i64 lost2) := (HI2.out.1.blk.cell 1).trans rfl
          go_wp2_with fail
          have hl2 : ps2.length = rl2.length := HI2.out.2.len
          have hf2 := HI2.out.2.few
          refine (same_any A2 c2 (V + 1) rl2 HI2.out.1.net HI2.out.1.ref HI2.out.2.say (by omega) HI2.out.2.bytes).mono ?_; rintro e w6 ⟨rfl, b6⟩
          have S6 := Lib.hid (HI2.out.1.later b6)
          have F6 := Lib.hid HI2.out.2
          have g0 : w6.cell? ⟨V, 0, none⟩ = some (.slice A2 rl2.length c2) := (S6.out.blk.cell 0).trans rfl
          have g1 : w6.cell? ⟨V, 1, none⟩ = some (.int .i64 lost2) := (S6.out.blk.cell 1).trans rfl
          clear HI2 b6 e0 e1
          go_wp2_with fail
          refine (same_any A2 c2 (V + 1) rl2 S6.out.net S6.out.ref F6.out.say (by omega) F6.out.bytes).mono ?_; rintro e w7 ⟨rfl, b7⟩
          have S7 := Lib.hid (S6.out.later b7)
          clear b7 g0 g1 S6
          go_wp2_with fail
          refine (len_net S7.out.net).mono ?_; rintro e w' ⟨rfl, rfl⟩
          have t1 : decide ((120 : Int) < (ps2.length : Int)) = false := by simp; omega
          go_wp2_with fail
          go_roundg (gk - 1)
          case rel => exact ⟨i + 1, c2, v2, ps2, A2, rl2, lost2, by go_num, by omega, by omega, by omega, S7.out, F6.out⟩
          case measure => omega
      · obtain rfl : i = 200 := by omega
        go_wp2_with (go_at_call 7; refine (lives_any _).mono ?_; rintro e w1 ⟨rfl, h1⟩; have H1 := Lib.hid h1; clear h1)
        go_ret
        exact ⟨rfl, HI.out.1.bel.trans (H1.out.mono HI.out.1.bel.size)⟩
    · obtain rfl : i = len := by omega
      go_wp2_with (go_at_call 7; refine (lives_any _).mono ?_; rintro e w1 ⟨rfl, h1⟩; have H1 := Lib.hid h1; clear h1)
      go_ret
      exact ⟨rfl, HI.out.1.bel.trans (H1.out.mono HI.out.1.bel.size)⟩
end Go.Proofs.Ytiooikjaalphiaa
