/-
  The walks of small and same. No condition beyond bytes of a length that lets them be copied.
-/
import Derived.Test.YtiooikjaalphiaaRefAge
namespace Go.Proofs.Ytiooikjaalphiaa
open Go.ChangeShapes Go.WideShapes Go.ChangeAt Go.RowKit
set_option linter.unusedVariables false
set_option linter.unusedSimpArgs false

def fits (i : Int) : Bool := decide (-10000 ≤ i) && decide (i ≤ 10000)
theorem small_any (i : Int) (w : World) : Calls Try.prog 6 #[.int .i64 i] w fun e w' => e = .returned (.bool (fits i)) ∧ w = w' := by
  by_cases h1 : -10000 ≤ i
  · by_cases h2 : i ≤ 10000
    · have t1 : decide (-10000 ≤ i) = true := by simpa using h1
      have t2 : decide (i ≤ 10000) = true := by simpa using h2
      have hf : fits i = true := by unfold fits; rw [t1, t2]; rfl
      rw [hf]
      go_enter Try.func6, Try.ntmps6
      go_wp2
      go_ret
      exact ⟨rfl, rfl⟩
    · have t1 : decide (-10000 ≤ i) = true := by simpa using h1
      have t2 : decide (i ≤ 10000) = false := by simpa using h2
      have hf : fits i = false := by unfold fits; rw [t1, t2]; rfl
      rw [hf]
      go_enter Try.func6, Try.ntmps6
      go_wp2
      go_ret
      exact ⟨rfl, rfl⟩
  · have t1 : decide (-10000 ≤ i) = false := by simpa using h1
    have hf : fits i = false := by unfold fits; rw [t1]; rfl
    rw [hf]
    go_enter Try.func6, Try.ntmps6
    go_wp2
    go_ret
    exact ⟨rfl, rfl⟩
theorem conv_pk (q : Pk) (W : World) (h : q.lies W) (m : Nat) (hm : q.bs.length = m) : (convert 28 9 (.slice (some ⟨q.g, 0, none⟩) m m)).run Try.prog W = .ok (.string (strOfNums q.bs)) W :=
  run_convert_bytes_arg W 28 5 Try.underlying28 Try.underlying5 q.g 0 m m q.bs hm (fun i hi => by rw [Nat.zero_add, Blk.cell h]; simp [u8l, show i < q.bs.length by omega]) 9 Try.underlying9
theorem u8_set (bs : List Int) (j : Nat) (x : Int) : (u8l bs).toArray.setIfInBounds j (.int .u8 x) = (u8l (bs.set j x)).toArray := by
  unfold u8l
  rw [List.map_set]
  simp
theorem succ_big (k : Nat) (h : k < 140737488355328) : wrap64 ((k : Int) + 1) = (k : Int) + 1 := IntWalk.wrap64_in _ (by omega)
def InQ (qs : List Pk) (k : Nat) : Prop := ∃ q ∈ qs, k = q.g
theorem Copies.notQ {w : World} {B k : Nat} {t : TypeId} {cs : Array Value} {qs : List Pk} (h : Copies w B qs) (hk : Blk w k t cs) (ht : t ≠ 5) : ¬ InQ qs k := by
  rintro ⟨q, hq, rfl⟩
  exact (Blk.differ hk (h.1 q hq).1 ht) rfl
theorem say_at {qs : List Pk} {rl : List (List Int × Int)} (h : sayL qs = rl) (i : Nat) (hi : i < qs.length) (hr : i < rl.length) : rl[i] = (qs[i].bs, qs[i].born) := by
  subst h
  simp [sayL, Pk.says]
set_option maxHeartbeats 1600000 in
theorem same_any {N B : Nat} {v : Value} {ps : List Pk} {lost : Int} {w : World} (A : Option Addr) (c B2 : Nat) (rl : List (List Int × Int)) (h : NetIs w N B v ps lost) (hr : RefIs w B2 (.slice A rl.length c) rl) (he : sayL ps = rl) (hn : ps.length ≤ 200) (hb : ∀ p ∈ ps, p.bs.length ≤ 140737488355328) :
    Calls Try.prog 16 #[.pointer (some ⟨N, 0, none⟩), .agg #[.slice A rl.length c, .int .i64 lost]] w fun e w' => e = .returned (.bool true) ∧ Below w.heap.size w w' := by
  obtain ⟨n, hN⟩ : ∃ n, rl.length = n := ⟨_, rfl⟩
  have hps : ps.length = n := by rw [← hN, ← he]; simp [sayL]
  have HN := Lib.hid hN
  have HE := Lib.hid he
  have HPS := Lib.hid hps
  rw [hps] at hn
  rw [hN] at hr ⊢
  have HR := Lib.hid hr
  have KB : Hid (Below w.heap.size w (w.alloc (.cells #[.slice A n c, .int .i64 lost] 27))) := (Below.refl _ _).alloc (Nat.le_refl _) _
  have K0 : Hid (Blk (w.alloc (.cells #[.slice A n c, .int .i64 lost] 27)) w.heap.size 27 #[.slice A n c, .int .i64 lost]) := Blk.new _ _ _
  have NA : Hid (NetIs (w.alloc (.cells #[.slice A n c, .int .i64 lost] 27)) N B v ps lost) := h.other KB.out
  have HALL := Lib.hid (all_any NA.out (by omega) hb)
  have HSZ : Hid (w.heap.size < (w.alloc (.cells #[.slice A n c, .int .i64 lost] 27)).heap.size) := by unfold Hid; simp
  have hwN := h.1.lt
  have HBY := Lib.hid hb
  clear h hr he hb hN hps
  go_enter Try.func16, Try.ntmps16
  go_wp2_with fail
  refine HALL.out.mono ?_; rintro e w1 ⟨v1, qs, rfl, hq1, hq2, hq3, hb1⟩
  have BQ : Hid (∀ q ∈ qs, q.bs.length ≤ 140737488355328) := fun q hq => by
    have hm : q.says ∈ sayL ps := by rw [← hq2]; exact List.mem_map.2 ⟨q, hq, rfl⟩
    obtain ⟨p, hp, e⟩ := List.mem_map.1 hm
    have : p.bs = q.bs := congrArg Prod.fst e
    rw [← this]
    exact HBY.out p hp
  have hqn : qs.length = n := by
    have := congrArg List.length hq2
    simp [sayL] at this
    rw [this, HPS.out]
  have J0 := Lib.hid (K0.out.below hb1 HSZ.out)
  have JB : Hid (Below w.heap.size w w1) := KB.out.trans (hb1.mono KB.out.size)
  have JN : Hid (NetIs w1 N B v ps lost) := NA.out.other hb1
  have JR : Hid (RefIs w1 B2 (.slice A n c) rl) := HR.out.later JB.out
  have SAY : Hid (sayL qs = rl) := by unfold Hid; rw [hq2, HE.out]
  have CP := Lib.hid hq3
  rw [hqn] at hq1
  obtain ⟨A1, c1, rfl⟩ := row_form hq1
  have RW := Lib.hid hq1
  have QN := Lib.hid hqn
  have HLEN : Hid (∀ m, Calls Try.prog 17 #[.pointer (some ⟨N, 0, none⟩)] (w1.drewN m) fun e w' => e = .returned (.int .i64 (n : Int)) ∧ w' = w1.drewN m) := fun m => by
    have := len_net (JN.out.other (below_draws (Below.refl _ _) m))
    rw [HPS.out] at this
    exact this.mono fun _ _ h => ⟨h.1, h.2.symm⟩
  have HLOST : Hid (∀ m, Calls Try.prog 18 #[.pointer (some ⟨N, 0, none⟩)] (w1.drewN m) fun e w' => e = .returned (.int .i64 lost) ∧ w' = w1.drewN m) := fun m =>
    (lost_net (JN.out.other (below_draws (Below.refl _ _) m))).mono fun _ _ h => ⟨h.1, h.2.symm⟩
  have y0 : w1.cell? ⟨w.heap.size, 0, none⟩ = some (.slice A n c) := (J0.out.cell 0).trans rfl
  have y1 : w1.cell? ⟨w.heap.size, 1, none⟩ = some (.int .i64 lost) := (J0.out.cell 1).trans rfl
  have hw1 : w.heap.size ≤ w1.heap.size := JB.out.size
  clear hq1 hq2 hq3 hb1 hqn HALL
  go_upto_region 2 with fail
  go_quiet (first
    | (go_at_call 17; refine Calls.quiet_of_same (HLEN.out _))
    | (go_at_call 18; refine Calls.quiet_of_same (HLOST.out _)))
  go_wp2_with fail
  have hw1B : w.heap.size ≤ (w.alloc (.cells #[.slice A n c, .int .i64 lost] 27)).heap.size := Nat.le_of_lt HSZ.out
  have CB : Hid (∀ k, k < w.heap.size → ¬ InQ qs k) := fun k hk ⟨q, hq, e⟩ => by
    have := (CP.out.1 q hq).2
    have := HSZ.out
    omega
  go_loopg [6] (n + 1) (fun gk s6 wr => ∃ i : Nat, s6 = .int .i64 i ∧ gk + i = n + 1 ∧ i ≤ n ∧ Hid (Chg (InQ qs) w1 wr ∧ ∀ (j : Nat) (h : j < qs.length), i ≤ j → (qs[j]).lies wr))
  case atStart => exact ⟨0, rfl, by omega, by omega, (Chg.refl _ _).draws _, fun j hj _ => (CP.out.1 _ (List.getElem_mem hj)).1⟩
  case round =>
    obtain ⟨i, rfl, hgi, hin, HI⟩ := hrel
    obtain ⟨gz, hgz⟩ : ∃ gz, gk = gz := ⟨_, rfl⟩
    rw [hgz] at hgi
    by_cases hlt : i < n
    · have hil : i < qs.length := by have := QN.out; omega
      have hir : i < rl.length := by have := HN.out; omega
      have hjr := JR.out
      obtain ⟨g, rfl, hnn, hc1, hc2, hg1, hg2, hcl⟩ := hjr.some_ (by omega)
      have hat := flatR_at rl i hir
      rw [say_at SAY.out i hil hir] at hat
      obtain ⟨cap, cur, hgb⟩ : ∃ cap cur, Blk w1 g 36 cur ∧ cap = c := by
        rcases hjr.2 with ⟨h0, _⟩ | ⟨g', cap, cur, hv, _, hh, _⟩
        · cases h0
        · injection hv with e1 e2 e3
          injection e1 with e1
          injection e1 with e1
          subst e1
          exact ⟨_, cur, hh, rfl⟩
      have hgq : ¬ InQ qs g := CP.out.notQ hgb.1 (by decide)
      have u0 : wr.cell? ⟨g, i * 2, none⟩ = some (.string (strOfNums qs[i].bs)) := (HI.out.1.cell (p := ⟨g, _, none⟩) hg2 hgq).trans (hcl _ _ hat.1)
      have u1 : wr.cell? ⟨g, i * 2 + 1, none⟩ = some (.int .i64 qs[i].born) := (HI.out.1.cell (p := ⟨g, _, none⟩) hg2 hgq).trans (hcl _ _ hat.2)
      have hjq := JR.out
      obtain ⟨gr, crw, hv, hrb⟩ : ∃ gr cs, A1 = some ⟨gr, 0, none⟩ ∧ Blk w1 gr 41 cs := by
        rcases RW.out.2 with ⟨_, h0⟩ | ⟨g', cap, cur, hv, _, hh, _⟩
        · omega
        · injection hv with e1 e2 e3
          exact ⟨g', cur, e1, hh⟩
      subst hv
      have hrc := World.ownsRow.cells (g := gr) RW.out rfl
      have hrq : ¬ InQ qs gr := CP.out.notQ hrb (by decide)
      have hpa := flatP_at qs i hil
      have v0w := hrc _ _ hpa.1
      have v1w := hrc _ _ hpa.2
      rw [Addr.add_mid, Nat.zero_add] at v0w v1w
      have HV0 : Hid (∀ W, Chg (InQ qs) w1 W → W.cell? ⟨gr, i * 2, none⟩ = some (qs[i].sl)) := fun W hW => (hW.cell (p := ⟨gr, _, none⟩) hrb.lt hrq).trans v0w
      have v0 := HV0.out wr HI.out.1
      have v1 : wr.cell? ⟨gr, i * 2 + 1, none⟩ = some (.int .i64 qs[i].born) := (HI.out.1.cell (p := ⟨gr, _, none⟩) hrb.lt hrq).trans v1w
      unfold Pk.sl at v0 HV0
      obtain ⟨m, hm⟩ : ∃ m, (qs[i]).bs.length = m := ⟨_, rfl⟩
      have hli := HI.out.2 i hil (Nat.le_refl _)
      have hcv : ∀ k, (convert 28 9 (.slice (some ⟨(qs[i]).g, 0, none⟩) m m)).run Try.prog (wr.drewN k) = .ok (.string (strOfNums (qs[i]).bs)) (wr.drewN k) := fun k => conv_pk _ _ (Blk.draws hli k) m hm
      have hcv0 : (convert 28 9 (.slice (some ⟨(qs[i]).g, 0, none⟩) m m)).run Try.prog wr = .ok (.string (strOfNums (qs[i]).bs)) wr := conv_pk _ _ hli m hm
      have LI := Lib.hid hli
      have HM := Lib.hid hm
      have hmem := List.getElem_mem hil
      have BM : Hid (m ≤ 140737488355328) := by unfold Hid; rw [← hm]; exact BQ.out _ hmem
      have HPW : Hid (∀ (j : Nat) (h : j < qs.length), i < j → (qs[j]).g ≠ (qs[i]).g) := fun j hj hij => by
        have := (List.pairwise_iff_getElem.1 CP.out.2) i j hil hj hij
        exact fun e => this e.symm
      rw [hm] at v0 HV0
      have y0' : wr.cell? ⟨w.heap.size, 0, none⟩ = some (.slice (some ⟨g, 0, none⟩) n c) := (HI.out.1.cell (p := ⟨w.heap.size, _, none⟩) J0.out.lt (CP.out.notQ J0.out (by decide))).trans y0
      have HLAT : Hid (∀ (j : Nat) (h : j < qs.length), i ≤ j → (qs[j]).lies wr) := HI.out.2
      have HCH := Lib.hid HI.out.1
      have HMEM : Hid (InQ qs (qs[i]).g) := ⟨_, hmem, rfl⟩
      generalize qs[i] = q at *
      have b1 : (0 : Int) ≤ (i : Int) := Int.natCast_nonneg i
      have b2 : (i : Int) < (n : Int) := Int.ofNat_lt.2 hlt
      have b3 := succ_w64 i (by omega)
      clear hjr hnn hc1 hc2 hcl hat hgb hjq hrc hpa v0w v1w hli hm hmem hrq hgq HI
      go_upto_region 7 with fail
      go_quiet (fail)
      go_wp2_with fail
      clear u0 u1 v0 v1 hcv hcv0 y0' y0 y1 b3
      go_loopg [7] (m + 1) (fun gk s7 wi => ∃ (j : Nat) (zs : List Int), s7 = .int .i64 j ∧ gk + j = m + 1 ∧ j ≤ m ∧ Hid (zs.length = m ∧ Blk wi q.g 5 (u8l zs).toArray ∧ Chg (InQ qs) w1 wi ∧ ∀ (j' : Nat) (h : j' < qs.length), i < j' → (qs[j']).lies wi))
      case atStart => exact ⟨0, q.bs, rfl, by omega, by omega, HM.out, Blk.draws LI.out _, HCH.out.draws _, fun j' hj' h => Blk.draws (HLAT.out j' hj' (by omega)) _⟩
      case round =>
        obtain ⟨j, zs, rfl, hgj, hjm, HJ⟩ := hrel
        have v0 := HV0.out wr HJ.out.2.2.1
        by_cases hjl : j < m
        · have d1 : (0 : Int) ≤ (j : Int) := Int.natCast_nonneg j
          have d2 : (j : Int) < (m : Int) := Int.ofNat_lt.2 hjl
          have hzl : j < zs.length := by have := HJ.out.1; omega
          have x0 : wr.cell? ⟨q.g, j, none⟩ = some (.int .u8 zs[j]) := by
            rw [HJ.out.2.1.cell j]
            simp [u8l, hzl]
          have x1 := HJ.out.2.1.free j
          generalize zs[j] = zj at *
          have b4 := succ_big j (Nat.lt_of_lt_of_le hjl BM.out)
          go_wp2_with fail
          go_roundg (gk - 1)
          case rel =>
            have e4 : (Value.int .i64 (wrap64 ((j : Int) + 1))) = .int .i64 ((j + 1 : Nat) : Int) := by rw [b4]; rfl
            clear b4
            refine ⟨j + 1, zs.set j 0, e4, by omega, by omega, by simp [HJ.out.1], ?_, Chg.put HJ.out.2.2.1 (by exact Or.inl HMEM.out) _, fun j' hj' h => Blk.away (HJ.out.2.2.2 j' hj' h) (HPW.out j' hj' h) _⟩
            exact HJ.out.2.1.put j _ (u8_set zs j 0)
          case measure => clear b4; omega
        · obtain rfl : j = m := by omega
          have b3 := succ_w64 i (by omega)
          go_wp2_with fail
          go_roundg (gz - 1)
          case rel =>
            have e4 : (Value.int .i64 (wrap64 ((i : Int) + 1))) = .int .i64 ((i + 1 : Nat) : Int) := by rw [b3]; rfl
            clear b3
            exact ⟨i + 1, e4, by omega, by omega, HJ.out.2.2.1, fun j' hj' h => HJ.out.2.2.2 j' hj' (by omega)⟩
          case measure => clear b3; omega
    · obtain rfl : i = n := by omega
      go_wp2_with fail
      go_ret
      exact ⟨rfl, JB.out.trans (HI.out.1.below hw1 CB.out)⟩
end Go.Proofs.Ytiooikjaalphiaa
