/-
  The walks of sid.Make and harrierref12.Make, for what may be. No condition beyond that.
-/
import Derived.Test.YtikceomnkkpljaaOctets
import Derived.Laws.CopyOwn
import Derived.Laws.MakeOwn
import Derived.Deep.CutBlock
namespace Go.Proofs.Ytikceomnkkpljaa
open Go.ChangeShapes Go.WideShapes Go.ChangeAt Go.RowKit
set_option linter.unusedVariables false
set_option linter.unusedSimpArgs false

def adrL (n d a : Int) : List Int := [253, 108, 0, 98, 0, 0, 0, 0] ++ by2 n ++ [d, 0] ++ by4 a
def adrV (n d a : Int) : Array Value := (u8s (adrL n d a)).toArray
theorem adr_len (n d a : Int) : (u8s (adrL n d a)).length = 16 := rfl
theorem size34 : (Try.prog.info? 34).map (·.size) = some 16 := by kernel_rfl
theorem size39 : (Try.prog.info? 39).map (·.size) = some 3 := by kernel_rfl
theorem size5 : (Try.prog.info? 5).map (·.size) = some 1 := by kernel_rfl
def zero16 : Array Value := (u8s (List.replicate 16 0)).toArray

theorem block_any (w : World) : Calls Try.prog 37 #[] w fun e w' => e = .returned (.agg #[.int .i64 64876, .int .i64 98, .int .i64 0, .int .i64 0]) ∧ Below w.heap.size w w' := by
  go_enter Try.func37, Try.ntmps37
  go_wp2
  go_returns
  exact ⟨by simp [go_sem], (Below.refl w.heap.size w).alloc (Nat.le_refl _) _⟩
def preL : List Int := [253, 108, 0, 98, 0, 0, 0, 0]
theorem head_at (n d : Int) : (preL ++ by2 n ++ [d, 0]).length = 12 := rfl
theorem fin_len (n d a : Int) : (preL ++ by2 n ++ [d, 0] ++ by4 a).length = 16 := rfl
def blkI (i : Nat) : Int := [64876, 98, 0, 0].getD i 0
theorem pre_step (i : Nat) (h : i < 4) : preL.take (2 * i) ++ by2 (blkI i) = preL.take (2 * (i + 1)) := by
  rcases (show i = 0 ∨ i = 1 ∨ i = 2 ∨ i = 3 by omega) with rfl | rfl | rfl | rfl <;> decide
theorem results_cell_tmp' {P : Program} {fn : Func} {p u : Tmp} {ty : TypeId} (h : fn.results = #[.cell p ty, .tmp u]) (tmps : Array Value) (w : World) (g : Nat) (t : TypeId) (cs : Array Value) (fr : Nat × Nat) (d : TypeDesc)
    (hp : tmps.getD p undef = .pointer (some ⟨g, 0, none⟩)) (hg : w.heap[g]? = some (.cells cs t fr))
    (hu : P.underlying ty = some d) (hd : (match d with | .struct _ | .array _ _ => true | _ => false) = true) (hi : (P.info? ty).map (·.size) = some cs.size) :
    (results fn tmps).run P w = .ok (.tuple #[.agg cs, tmps.getD u undef]) w := by
  have hp' : tmps[p]?.getD undef = .pointer (some ⟨g, 0, none⟩) := by simpa using hp
  simp [results, h, hp', asAddr, run_loadVar_row w g t ty cs fr d hg hu hd hi]
theorem two_one {x y : Int} : ∀ u ∈ [Value.int .u8 x, .int .u8 y], u.oneCell' = true := by
  intro u hu
  simp at hu
  rcases hu with rfl | rfl <;> rfl
theorem idx66 (i : Nat) (h : i < 4) (W : World) : (Instr.index 66 (.agg #[.int .i64 64876, .int .i64 98, .int .i64 0, .int .i64 0]) (.int .i64 (i : Int))).run Try.prog W = .ok (.int .i64 (blkI i)) W := by
  have h1 : (0 : Int) ≤ i ∧ (i : Int) < 4 := by omega
  obtain ⟨j0, hj, hj0⟩ : ∃ j0, Try.prog.info? 3 = some j0 ∧ j0.size = 1 := by
    have : (Try.prog.info? 3).map (·.size) = some 1 := by kernel_rfl
    cases h : Try.prog.info? 3 with
    | none => simp [h] at this
    | some j => exact ⟨j, rfl, by simpa [h] using this⟩
  rcases (show i = 0 ∨ i = 1 ∨ i = 2 ∨ i = 3 by omega) with rfl | rfl | rfl | rfl <;>
  simp [Instr.index, run_underlying Try.underlying66, asIntOf, go_sem, part, sizeOf, typeInfo, hj, hj0, isAgg, run_underlying Try.underlying3, blkI]
set_option maxHeartbeats 1600000 in
theorem make_any (n d a : Int) (w : World) (hn : 0 ≤ n ∧ n ≤ 65535) (hd : 0 ≤ d ∧ d ≤ 255) (ha : 0 ≤ a ∧ a ≤ 4294967295) :
    Calls Try.prog 33 #[.agg #[.int .i64 n, .int .i64 d, .int .u32 a]] w fun e w' => e = .returned (.tuple #[.agg (adrV n d a), .int .i64 0]) ∧ Below w.heap.size w w' := by
  have t1 : decide (n < 0) = false := by simp; omega
  have t2 : decide (65535 < n) = false := by simp; omega
  have t3 : decide (d < 0) = false := by simp; omega
  have t4 : decide (255 < d) = false := by simp; omega
  obtain ⟨z16, hz16⟩ : ∃ z16, #[Value.int IntKind.u8 0, Value.int IntKind.u8 0, Value.int IntKind.u8 0, Value.int IntKind.u8 0, Value.int IntKind.u8 0, Value.int IntKind.u8 0, Value.int IntKind.u8 0, Value.int IntKind.u8 0, Value.int IntKind.u8 0, Value.int IntKind.u8 0, Value.int IntKind.u8 0, Value.int IntKind.u8 0, Value.int IntKind.u8 0, Value.int IntKind.u8 0, Value.int IntKind.u8 0, Value.int IntKind.u8 0] = z16 := ⟨_, rfl⟩
  have hzs : z16.toList.length = 16 := by rw [← hz16]; rfl
  have HZS := Lib.hid hzs
  have ZL := Lib.hid hzs
  have K0 : Hid (Blk ((w.alloc (.cells #[.int .i64 n, .int .i64 d, .int .u32 a] 39)).alloc (.cells z16 34)) w.heap.size 39 #[.int .i64 n, .int .i64 d, .int .u32 a]) := (Blk.new w 39 _).more _
  have K1 : Hid (Blk ((w.alloc (.cells #[.int .i64 n, .int .i64 d, .int .u32 a] 39)).alloc (.cells z16 34)) (w.heap.size + 1) 34 z16) := Blk.newAt _ 34 _ _ (by simp)
  have HB0 : Hid (Below w.heap.size w ((w.alloc (.cells #[.int .i64 n, .int .i64 d, .int .u32 a] 39)).alloc (.cells z16 34))) := ((Below.refl _ _).alloc (Nat.le_refl _) _).alloc (by simp) _
  have hsz : w.heap.size + 2 = ((w.alloc (.cells #[.int .i64 n, .int .i64 d, .int .u32 a] 39)).alloc (.cells z16 34)).heap.size := by simp
  have HSZ := Lib.hid (Nat.le_of_eq hsz)
  clear hzs hsz
  go_enter Try.func33, Try.ntmps33
  go_upto_region 4 with fail
  obtain ⟨wa, hwaE⟩ : ∃ wa, (w.alloc (.cells #[.int .i64 n, .int .i64 d, .int .u32 a] 39)).alloc (.cells z16 34) = wa := ⟨_, rfl⟩
  rw [hwaE] at K0 K1 HB0 HSZ ⊢
  clear hwaE
  have HZ16 := Lib.hid hz16
  clear hz16
  go_wp2_with fail
  refine (block_any wa).mono ?_; rintro e w1 ⟨rfl, b1⟩
  have H1 : Hid (Below (w.heap.size + 2) wa w1) := b1.mono HSZ.out
  have hw1 : w.heap.size + 2 ≤ w1.heap.size := Nat.le_trans HSZ.out b1.size
  clear b1
  go_wp2_with fail
  go_loopg [4, 6, 28] 5 (fun gk s4 s6 s28 wr => ∃ (i c : Nat) (A : Option Addr), s4 = .slice A (2 * i) c ∧ s28 = .int .i64 i ∧ gk + i = 5 ∧ i ≤ 4 ∧ Hid (OwnB wr (w.heap.size + 2) (.slice A (2 * i) c) (preL.take (2 * i)) ∧ Below (w.heap.size + 2) wa wr ∧ w.heap.size + 2 ≤ wr.heap.size))
  case atStart => exact ⟨0, 0, none, rfl, rfl, by omega, by omega, OwnB.nil _ _, H1.out, hw1⟩
  case round =>
    obtain ⟨i, c, A, rfl, rfl, hgi, hi4, HI⟩ := hrel
    by_cases hlt : i < 4
    · have hb : -9223372036854775808 ≤ blkI i ∧ blkI i ≤ 9223372036854775807 := by
        rcases (show i = 0 ∨ i = 1 ∨ i = 2 ∨ i = 3 by omega) with rfl | rfl | rfl | rfl <;> decide
      have HP := put16_any (w.heap.size + 2) (.slice A (2 * i) c) (preL.take (2 * i)) (blkI i) wr HI.out.1 HI.out.2.2 (by simp; omega) hb
      rw [pre_step i hlt] at HP
      have hl2 : (preL.take (2 * (i + 1))).length = 2 * (i + 1) := by simp [preL]; omega
      have HPH := Lib.hid HP
      have HL2 := Lib.hid hl2
      clear HP hl2 hb
      have hix := idx66 i hlt wr
      obtain ⟨bi, hbi⟩ : ∃ bi, blkI i = bi := ⟨_, rfl⟩
      rw [hbi] at hix HPH
      clear hbi
      have hlk : OwnB wr (w.heap.size + 2) (.slice A (2 * i) c) (preL.take (2 * i)) := HI.out.1
      clear hlk
      go_wp2_with fail
      refine HPH.out.mono ?_; rintro e w2 ⟨v', rfl, h1, h2, _⟩
      obtain ⟨A2, c2, rfl⟩ := h1.form
      have R2 : Hid (OwnB w2 (w.heap.size + 2) (.slice A2 (preL.take (2 * (i + 1))).length c2) (preL.take (2 * (i + 1))) ∧ Below (w.heap.size + 2) wa w2 ∧ w.heap.size + 2 ≤ w2.heap.size) := ⟨h1, HI.out.2.1.trans h2, Nat.le_trans HI.out.2.2 h2.size⟩
      rw [HL2.out] at R2 ⊢
      clear h1 h2
      go_wp2_with fail
      go_roundg (gk - 1)
      case rel => exact ⟨i + 1, c2, A2, rfl, by go_num, by omega, by omega, R2.out⟩
      case measure => omega
    · obtain rfl : i = 4 := by omega
      obtain ⟨i0, hi, hz0, hz1, hz2⟩ := info_parts info5
      have HZ := Lib.hid (And.intro hi (And.intro hz0 (And.intro hz1 hz2)))
      have h8 : 2 * 4 = 8 := rfl
      have hI := HI.out
      rw [h8, show preL.take 8 = preL from rfl] at hI
      have HJ := Lib.hid hI
      have J0 := Lib.hid (K0.out.below hI.2.1 (by omega))
      have x0 : wr.cell? ⟨w.heap.size, 0, none⟩ = some (.int .i64 n) := (J0.out.cell 0).trans rfl
      have x1 : wr.cell? ⟨w.heap.size, 1, none⟩ = some (.int .i64 d) := (J0.out.cell 1).trans rfl
      have x2 : wr.cell? ⟨w.heap.size, 2, none⟩ = some (.int .u32 a) := (J0.out.cell 2).trans rfl
      have hws : w.heap.size + 2 ≤ wr.heap.size := hI.2.2
      have hd8 : IntKind.u8.wrap d = d := IntWalk.u8_in d hd
      clear hI hi hz0 hz1 hz2 h8
      go_upto_region 9 with fail
      go_cut [4] (fun s4 wx => ∃ A c, s4 = .slice A 12 c ∧ Hid (OwnB wx (w.heap.size + 2) (.slice A 12 c) (preL ++ by2 n ++ [d, 0]) ∧ Below (w.heap.size + 2) wr wx))
      case first =>
        have hp8 : Hid (preL.length ≤ 1000) := by unfold Hid; decide
        have hnb : Hid (-9223372036854775808 ≤ n ∧ n ≤ 9223372036854775807) := by unfold Hid; omega
        have h63 : Hid (10 + 2 ≤ maxLen) := by unfold Hid maxLen; omega
        have h47 : Hid ((10 + 2) * 1 ≤ 140737488355328) := by unfold Hid; omega
        have l0 : Hid (w.heap.size < w.heap.size + 2) := by unfold Hid; omega
        have sza : ∀ (W : World) (o : Obj), w.heap.size + 2 ≤ W.heap.size → w.heap.size + 2 ≤ (W.alloc o).heap.size := fun W o h => by simp; omega
        have SZA := Lib.hid sza
        clear sza
        have HC1 : Hid (Calls Try.prog 38 #[.slice A 8 c, .int .i64 n] wr.drew fun e w2 => ∃ A2 c2, e = .returned (.slice A2 10 c2) ∧
            (w2.cell? ⟨w.heap.size, 0, none⟩ = some (.int .i64 n) ∧ w2.cell? ⟨w.heap.size, 1, none⟩ = some (.int .i64 d)) ∧
            ((w2.alloc (.cells #[.int .u8 d, .int .u8 0] 5)).cell? ⟨w.heap.size, 0, none⟩ = some (.int .i64 n) ∧ (w2.alloc (.cells #[.int .u8 d, .int .u8 0] 5)).cell? ⟨w.heap.size, 1, none⟩ = some (.int .i64 d)) ∧
            Hid (OwnB (w2.alloc (.cells #[.int .u8 d, .int .u8 0] 5)) (w.heap.size + 2) (.slice A2 10 c2) (preL ++ by2 n)) ∧ Hid (Below (w.heap.size + 2) wr (w2.alloc (.cells #[.int .u8 d, .int .u8 0] 5))) ∧ Hid (w.heap.size + 2 ≤ (w2.alloc (.cells #[.int .u8 d, .int .u8 0] 5)).heap.size) ∧
            Hid (∀ j u, [Value.int .u8 d, .int .u8 0][j]? = some u → (w2.alloc (.cells #[.int .u8 d, .int .u8 0] 5)).cell? ((⟨w2.heap.size, 0, none⟩ : Addr).add j) = some u)) := by
          refine (put16_any (w.heap.size + 2) _ preL n wr.drew HJ.out.1 hws hp8.out hnb.out).mono ?_
          rintro e w2 ⟨v', rfl, h1, h2, _⟩
          obtain ⟨A2, c2, rfl⟩ := h1.form
          rw [show (preL ++ by2 n).length = 10 from rfl] at h1 ⊢
          have H2 : Below (w.heap.size + 2) wr w2 := (Below.refl _ _).drew.trans h2
          have hw2 : w.heap.size + 2 ≤ w2.heap.size := Nat.le_trans hws H2.size
          have H3 : Below (w.heap.size + 2) wr (w2.alloc (.cells #[.int .u8 d, .int .u8 0] 5)) := H2.alloc hw2 _
          exact ⟨A2, c2, rfl, ⟨(H2.cell (p := ⟨w.heap.size, 0, none⟩) l0.out).trans x0, (H2.cell (p := ⟨w.heap.size, 1, none⟩) l0.out).trans x1⟩, ⟨(H3.cell (p := ⟨w.heap.size, 0, none⟩) l0.out).trans x0, (H3.cell (p := ⟨w.heap.size, 1, none⟩) l0.out).trans x1⟩, h1.more _, H3, sz_more _ hw2, cells2_new w2 5 _ _⟩
        have HC2 : Hid (Calls Try.prog 38 #[.slice A 8 c, .int .i64 n] (wr.alloc (.cells #[.int .u8 d, .int .u8 0] 5)).drew fun e w2 => ∃ A2 c2, e = .returned (.slice A2 10 c2) ∧
            (w2.cell? ⟨w.heap.size, 0, none⟩ = some (.int .i64 n) ∧ w2.cell? ⟨w.heap.size, 1, none⟩ = some (.int .i64 d)) ∧
            Hid (OwnB w2 (w.heap.size + 2) (.slice A2 10 c2) (preL ++ by2 n)) ∧ Hid (Below (w.heap.size + 2) wr w2) ∧ Hid (w.heap.size + 2 ≤ w2.heap.size) ∧
            Hid (∀ j u, [Value.int .u8 d, .int .u8 0][j]? = some u → w2.cell? ((⟨wr.heap.size, 0, none⟩ : Addr).add j) = some u)) := by
          refine (put16_any (w.heap.size + 2) _ preL n (wr.alloc (.cells #[.int .u8 d, .int .u8 0] 5)).drew ((HJ.out.1.more (.cells #[.int .u8 d, .int .u8 0] 5) : _)) (sz_more (.cells #[.int .u8 d, .int .u8 0] 5) hws) hp8.out hnb.out).mono ?_
          rintro e w2 ⟨v', rfl, h1, h2, h3⟩
          obtain ⟨A2, c2, rfl⟩ := h1.form
          rw [show (preL ++ by2 n).length = 10 from rfl] at h1 ⊢
          have H2 : Below (w.heap.size + 2) wr w2 := (((Below.refl _ _).alloc hws (.cells #[.int .u8 d, .int .u8 0] 5)).drew).trans h2
          refine ⟨A2, c2, rfl, ⟨(H2.cell (p := ⟨w.heap.size, 0, none⟩) l0.out).trans x0, (H2.cell (p := ⟨w.heap.size, 1, none⟩) l0.out).trans x1⟩, h1, H2, Nat.le_trans hws H2.size, fun j u hj => ?_⟩
          have hnot : ¬ some wr.heap.size = (Value.slice A 8 c).ownBlock := fun e => by
            have := (HJ.out.1.lt _ e.symm).2
            omega
          rw [Addr.add_mid]
          refine (h3.cell (p := ⟨wr.heap.size, 0 + j, none⟩) (by simp) hnot).trans ?_
          have := cells2_new wr 5 (.int .u8 d) (.int .u8 0) j u hj
          rwa [Addr.add_mid] at this
        have hxa : (wr.alloc (.cells #[.int .u8 d, .int .u8 0] 5)).cell? ⟨w.heap.size, 0, none⟩ = some (.int .i64 n) ∧ (wr.alloc (.cells #[.int .u8 d, .int .u8 0] 5)).cell? ⟨w.heap.size, 1, none⟩ = some (.int .i64 d) := ⟨(((Below.refl _ _).alloc hws (.cells #[.int .u8 d, .int .u8 0] 5)).cell (p := ⟨w.heap.size, 0, none⟩) l0.out).trans x0, (((Below.refl _ _).alloc hws (.cells #[.int .u8 d, .int .u8 0] 5)).cell (p := ⟨w.heap.size, 1, none⟩) l0.out).trans x1⟩
        have HR : Hid (∀ (w2 w3 : World) (A2 : Option Addr) (c2 g3 c3 : Nat), OwnB w2 (w.heap.size + 2) (.slice A2 10 c2) (preL ++ by2 n) → Below (w.heap.size + 2) wr w2 → w.heap.size + 2 ≤ w2.heap.size → w3.ownsRow (w.heap.size + 2) 5 1 (.slice (some ⟨g3, 0, none⟩) (10 + 2) c3) (10 + 2) (u8s (preL ++ by2 n) ++ [Value.int .u8 d, .int .u8 0]) → w2.grownBy w3 (Value.slice A2 10 c2).ownBlock →
            Hid (OwnB w3 (w.heap.size + 2) (.slice (some ⟨g3, 0, none⟩) 12 c3) (preL ++ by2 n ++ [d, 0]) ∧ Below (w.heap.size + 2) wr w3) ∧ w3.cell? ⟨w.heap.size, 0, none⟩ = some (.int .i64 n) ∧ w3.cell? ⟨w.heap.size, 1, none⟩ = some (.int .i64 d)) := by
          intro w2 w3 A2 c2 g3 c3 h1 h2 h3 h4 h5
          have R := stepB (ys := [d, 0]) h1 h2 h3 rfl h4 h5
          exact ⟨R, (R.2.cell (p := ⟨w.heap.size, 0, none⟩) l0.out).trans x0, (R.2.cell (p := ⟨w.heap.size, 1, none⟩) l0.out).trans x1⟩
        go_region_held3 (fun w' => w'.cell? ⟨w.heap.size, 0, none⟩ = some (.int .i64 n) ∧ w'.cell? ⟨w.heap.size, 1, none⟩ = some (.int .i64 d)) (first | exact hu | exact hz | exact hy | exact hxa | exact ⟨x0, x1⟩ | go_keep)
          (first
            | (go_at_call 38; with_reducible refine Calls.mono HC1.out ?_; rintro e w2 ⟨A2, c2, rfl, hy, hz, O3, B3, S3, C3⟩)
            | (go_at_call 38; with_reducible refine Calls.mono HC2.out ?_; rintro e w2 ⟨A2, c2, rfl, hy, O3, B3, S3, C3⟩)
            | (refine step_append_lies _ rfl _ _ 58 rfl (w.heap.size + 2) 5 i0 _ 1 1 Try.underlying58 HZ.out.1 HZ.out.2.1 HZ.out.2.2.1 HZ.out.2.2.2 rfl Nat.one_pos (.slice A2 10 c2) 10 (u8s (preL ++ by2 n)) rfl O3.out ⟨w2.heap.size, 0, none⟩ 2 2 [.int .u8 d, .int .u8 0] rfl rfl C3.out two_one Nat.two_pos h63.out h47.out S3.out _ rfl ?_; intro g3 c3 w3 hown hgrow hblk hlt; obtain ⟨R, hu⟩ := HR.out _ _ _ _ _ _ O3.out B3.out S3.out hown hgrow; clear hown hgrow hblk)
            | (refine step_append_lies _ rfl _ _ 58 rfl (w.heap.size + 2) 5 i0 _ 1 1 Try.underlying58 HZ.out.1 HZ.out.2.1 HZ.out.2.2.1 HZ.out.2.2.2 rfl Nat.one_pos (.slice A2 10 c2) 10 (u8s (preL ++ by2 n)) rfl O3.out ⟨wr.heap.size, 0, none⟩ 2 2 [.int .u8 d, .int .u8 0] rfl rfl C3.out two_one Nat.two_pos h63.out h47.out S3.out _ rfl ?_; intro g3 c3 w3 hown hgrow hblk hlt; obtain ⟨R, hu⟩ := HR.out _ _ _ _ _ _ O3.out B3.out S3.out hown hgrow; clear hown hgrow hblk)
            | fail)
        all_goals
          go_wp2_with fail
          go_meet
          exact ⟨_, _, rfl, R.out⟩
      case rest =>
        obtain ⟨A3, c3, rfl, HR⟩ := hcut
        have HO : Hid (OwnB wc (w.heap.size + 2) (.slice A3 12 c3) (preL ++ by2 n ++ [d, 0]) ∧ Below (w.heap.size + 2) wa wc ∧ w.heap.size + 2 ≤ wc.heap.size) := ⟨HR.out.1, HJ.out.2.1.trans HR.out.2, Nat.le_trans hws HR.out.2.size⟩
        have J1 := Lib.hid (K0.out.below HO.out.2.1 (by omega))
        have y2 : wc.cell? ⟨w.heap.size, 2, none⟩ = some (.int .u32 a) := (J1.out.cell 2).trans rfl
        clear x0 x1 x2 J0 HR HJ hws
        go_wp2_with fail
        refine (put32_any (w.heap.size + 2) _ (preL ++ by2 n ++ [d, 0]) a wc HO.out.1 HO.out.2.2 (by rw [head_at]; omega) ha).mono ?_
        rintro e w4 ⟨v4, rfl, h1, h2⟩
        obtain ⟨g4, c4, rfl, hg4, hgl4, hat4⟩ := h1.at_ (by rw [fin_len]; omega)
        rw [fin_len] at h1 ⊢
        have B4 : Hid (Below (w.heap.size + 2) wa w4 ∧ w.heap.size + 2 ≤ w4.heap.size) := ⟨HO.out.2.1.trans h2, Nat.le_trans HO.out.2.2 h2.size⟩
        have HAT := Lib.hid hat4
        have K4 := Lib.hid (K1.out.below B4.out.1 (by omega))
        clear h1 h2 hat4 y2
        obtain ⟨cs, hcs⟩ : ∃ cs, u8s (preL ++ by2 n ++ [d, 0] ++ by4 a) = cs := ⟨_, rfl⟩
        have hcl : cs.length = 16 := by rw [← hcs]; rfl
        have hco : ∀ u ∈ cs, u.oneCell' = true := by rw [← hcs]; exact u8s_one
        have HCS := Lib.hid hcs
        have HCL := Lib.hid hcl
        have HCO := Lib.hid hco
        clear hcs hcl hco
        go_upto_region 12 with fail
        rw [HZ16.out]
        obtain ⟨wb, hwbE⟩ : ∃ wb, w4.alloc (.cells z16 34) = wb := ⟨_, rfl⟩
        have KB : Hid (Blk wb w4.heap.size 34 z16.toList.toArray) := by unfold Hid; rw [← hwbE, Array.toArray_toList]; exact Blk.new _ _ _
        have KR : Hid (Blk wb (w.heap.size + 1) 34 z16) := by unfold Hid; rw [← hwbE]; exact K4.out.more _
        have HBB : Hid (Below (w.heap.size + 2) wa wb) := by unfold Hid; rw [← hwbE]; exact B4.out.1.alloc B4.out.2 _
        have HATB : Hid (At wb ⟨g4, 0, none⟩ (preL ++ by2 n ++ [d, 0] ++ by4 a)) := by unfold Hid; rw [← hwbE]; exact HAT.out.later (by exact hgl4) ((Below.refl _ _).alloc (Nat.le_refl _) _)
        rw [hwbE]
        have hw4 : w.heap.size + 2 ≤ w4.heap.size := B4.out.2
        clear hwbE
        have hsp : splice z16.toList 0 cs = cs := by
          unfold splice
          rw [List.take_zero, List.nil_append, List.drop_eq_nil_of_le (by rw [HZS.out, HCL.out]; omega), List.append_nil]
        have HSP := Lib.hid hsp
        obtain ⟨cur, hcur⟩ : ∃ cur, z16.toList = cur := ⟨_, rfl⟩
        rw [hcur] at KB HSP HZS
        have hsrc : Hid (0 < cs.length → some (⟨w4.heap.size, 0, none⟩ : Addr) = some ⟨w4.heap.size, 0, none⟩ ∧ ∃ ad, some (⟨g4, 0, none⟩ : Addr) = some ad ∧ ∀ j v, cs[j]? = some v → wb.cell? (ad.add j) = some v) := fun _ => ⟨rfl, _, rfl, by rw [← HCS.out]; exact HATB.out⟩
        clear hcur hsp
        have hmin : Hid (cs.length = Nat.min 16 16) := HCL.out
        have hfit : Hid (0 + cs.length ≤ cur.length) := by unfold Hid; have h1 := HCL.out; have h2 := HZS.out; omega
        have hi34 : Hid ((Try.prog.info? 34).map (·.size) = some cs.toArray.size) := by unfold Hid; rw [size34, List.size_toArray, HCL.out]
        have hold : Hid (z16.size = cs.toArray.size) := by unfold Hid; rw [← Array.length_toList, ZL.out, List.size_toArray, HCL.out]
        have hall : Hid (cs.toArray.all (·.oneCell') = true) := by unfold Hid; simpa using HCO.out
        go_wp2_with (first
          | (refine wpList_copy_splice rfl _ _ 58 58 rfl 5 Try.underlying58 size5 _ _ 16 16 16 c4 rfl rfl w4.heap.size 0 cur 34 KB.out cs hmin.out hsrc.out hfit.out HCO.out (w.heap.size + 2) wb (Below.refl _ _) hw4 ?_; intro w5 HG5 hB5; have HB5 := Lib.hid hB5; have K5 := Lib.hid (KR.out.below HB5.out (Nat.lt_succ_self _)); have G5 : Hid (w5.heap[w4.heap.size]? = some (.cells cs.toArray 34 (0, 0))) := (by have h9 := HG5.out; rw [HSP.out] at h9; exact h9); clear hB5)
          | (refine wpList_load_row rfl 34 _ rfl w4.heap.size rfl 34 cs.toArray (0, 0) _ G5.out Try.underlying34 rfl hi34.out ?_)
          | (refine wpList_store_row rfl 34 _ _ rfl (w.heap.size + 1) cs.toArray rfl rfl 34 z16 K5.out hi34.out hold.out hall.out ?_)
          | fail)
        refine bodyPost_ret (results_cell_tmp' rfl _ _ (w.heap.size + 1) 34 cs.toArray _ _ rfl (setRow_heap w5 _ z16 cs.toArray 34 (0, 0) K5.out) Try.underlying34 rfl hi34.out) rfl ?_
        have hbb : Below w.heap.size w w5 := HB0.out.trans ((HBB.out.trans HB5.out).mono (by omega))
        refine ⟨?_, below_setRow hbb (by omega) _⟩
        rw [← HCS.out]
        rfl
end Go.Proofs.Ytikceomnkkpljaa
