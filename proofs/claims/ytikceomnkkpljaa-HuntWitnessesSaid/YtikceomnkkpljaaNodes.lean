/-
  The walks of in, Nodes, slices.Index, slices.Contains. No condition beyond a length that is no machine's.
-/
import Derived.Test.YtikceomnkkpljaaSyn
import Derived.Maps.AppendAt
namespace Go.Proofs.Ytikceomnkkpljaa
open Go.ChangeShapes Go.WideShapes Go.ChangeAt Go.RowKit
set_option linter.unusedVariables false
set_option linter.unusedSimpArgs false

/-- Numbers that lie somewhere. -/
def NRow (w : World) (A : Option Addr) (l : List Int) : Prop :=
  0 < l.length → ∃ g o, A = some ⟨g, o, none⟩ ∧ g < w.heap.size ∧ ∀ (i : Nat) (h : i < l.length), w.cell? ⟨g, o + i, none⟩ = some (.int .i64 l[i])
theorem NRow.later {w v : World} {A : Option Addr} {l : List Int} (h : NRow w A l) (hb : Below w.heap.size w v) : NRow v A l := fun hn => by
  obtain ⟨g, o, rfl, hg, hc⟩ := h hn
  exact ⟨g, o, rfl, Nat.lt_of_lt_of_le hg hb.size, fun i hi => (hb.cell (p := ⟨g, _, none⟩) hg).trans (hc i hi)⟩
def iz (l : List Int) : List Value := l.map (Value.int .i64)
def OwnI (w : World) (B : Nat) (v : Value) (l : List Int) : Prop := w.ownsRow B 3 1 v l.length (iz l)
section
variable {w v : World} {B : Nat} {x : Value} {l : List Int}
theorem OwnI.later (h : OwnI w B x l) (hb : Below w.heap.size w v) : OwnI v B x l :=
  ⟨h.1, h.2.imp id fun ⟨g, cap, cur, h1, h2, h3, h4⟩ => ⟨g, cap, cur, h1, h2, (hb.block g (lt_of_block h3)).trans h3, h4⟩⟩
theorem OwnI.form (h : OwnI w B x l) : ∃ A c, x = .slice A l.length c := by
  rcases h.2 with ⟨rfl, h0⟩ | ⟨g, cap, cur, rfl, _⟩
  · exact ⟨none, 0, by rw [h0]⟩
  · exact ⟨_, _, rfl⟩
theorem OwnI.base {B' : Nat} (h : OwnI w B x l) (hb : B' ≤ B) : OwnI w B' x l :=
  ⟨h.1, h.2.imp id fun ⟨g, cap, cur, h1, h2, h3⟩ => ⟨g, cap, cur, h1, Nat.le_trans hb h2, h3⟩⟩
theorem OwnI.more (h : OwnI w B x l) (o : Obj) : OwnI (w.alloc o) B x l := World.ownsRow.alloc h o
theorem OwnI.row {A : Option Addr} {n c : Nat} (h : OwnI w B (.slice A n c) l) : NRow w A l := fun hl => by
  rcases h.2 with ⟨_, h0⟩ | ⟨g, cap, cur, hv, hg, hh, hcap, hmax, hsz, htk⟩
  · omega
  injection hv with hA h1 h2
  subst hA
  refine ⟨g, 0, rfl, lt_of_block hh, fun i hi => ?_⟩
  rw [Nat.zero_add, cell_of_row w g i cur 3 (0, 0) hh]
  have h1 : (cur.toList.take (l.length * 1))[i]? = some (.int .i64 l[i]) := by
    rw [htk]; simp [iz, hi]
  rw [List.getElem?_take, if_pos (by omega)] at h1
  simpa using h1
end
theorem info3 : (Try.prog.info? 3).map (fun i => (i.zero, i.size, i.bytes)) = some (some (.int .i64 0), 1, 8) := by kernel_rfl
theorem one_int {x : Int} : ∀ u ∈ [Value.int .i64 x], u.oneCell' = true := by
  intro u hu; simp at hu; subst hu; rfl
theorem succ64 (k : Nat) (h : k < 1000000000000) : wrap64 ((k : Int) + 1) = ((k + 1 : Nat) : Int) := by rw [IntWalk.wrap64_in _ (by omega)]; omega
theorem in_any (A : Option Addr) (n c : Nat) (l : List Int) (x : Int) (w : World) (h : NRow w A l) (hn : l.length = n) (hm : n ≤ 1000000) :
    Calls Try.prog 30 #[.slice A n c, .int .i64 x] w fun e w' => e = .returned (.bool (decide (x ∈ l))) ∧ w = w' := by
  have HH := Lib.hid h
  have HL := Lib.hid hn
  clear h hn
  go_enter Try.func30, Try.ntmps30
  go_wp2_with fail
  go_loopg [5] (n + 1) (fun gk s5 wr => ∃ i : Nat, s5 = .int .i64 i ∧ gk + i = n + 1 ∧ i ≤ n ∧ wr = w ∧ Hid (¬ x ∈ l.take i))
  case atStart => exact ⟨0, rfl, by omega, by omega, rfl, by unfold Hid; simp⟩
  case round =>
    obtain ⟨i, rfl, hgi, hin, rfl, HX⟩ := hrel
    by_cases hlt : i < n
    · have hil : i < l.length := by have := HL.out; omega
      obtain ⟨g, o, rfl, hg, hc⟩ := HH.out (by omega)
      have x0 := hc i hil
      have htk : l.take (i + 1) = l.take i ++ [l[i]] := by rw [List.take_add_one, List.getElem?_eq_getElem hil]; rfl
      have hmem := List.getElem_mem hil
      have HT := Lib.hid htk
      have HMM := Lib.hid hmem
      obtain ⟨y, hy⟩ : ∃ y, l[i] = y := ⟨_, rfl⟩
      rw [hy] at x0 HT HMM
      have b1 : (0 : Int) ≤ (i : Int) := Int.natCast_nonneg i
      have b2 : (i : Int) < (n : Int) := Int.ofNat_lt.2 hlt
      clear hc htk hmem hy
      by_cases he : y = x
      · have t : (y == x) = true := by simpa using he
        have HE := Lib.hid he
        clear he
        go_wp2_with fail
        go_ret
        exact ⟨ret_bool (by have := HMM.out; rw [HE.out] at this; simpa using this), rfl⟩
      · have t : (y == x) = false := by simpa using he
        have HE := Lib.hid he
        clear he
        go_wp2_with fail
        go_roundg (gk - 1)
        case rel =>
          refine ⟨i + 1, by go_num, by omega, by omega, rfl, ?_⟩
          rw [HT.out]
          unfold Hid
          rw [List.mem_append, List.mem_singleton]
          rintro (h | h)
          · exact HX.out h
          · exact HE.out h.symm
        case measure => omega
    · obtain rfl : i = n := by omega
      have hX := HX.out
      rw [List.take_of_length_le (by rw [HL.out]; exact Nat.le_refl _)] at hX
      have HXX := Lib.hid hX
      clear hX HX
      go_wp2_with fail
      go_ret
      exact ⟨ret_bool (by simpa using HXX.out), rfl⟩
set_option maxHeartbeats 1600000 in
theorem nodes_any (A : Option Addr) (n c : Nat) (ps : List (Int × Int)) (w : World) (h : PRow w A ps) (hn : ps.length = n) (hm : n ≤ 1000) :
    Calls Try.prog 25 #[.slice A n c] w fun e w' => ∃ v, e = .returned v ∧ OwnI w' w.heap.size v (nodesL (flatN ps)) ∧ Below w.heap.size w w' := by
  obtain ⟨i0, hi, hz0, hz1, hz2⟩ := info_parts info3
  have HZ := Lib.hid (And.intro hi (And.intro hz0 (And.intro hz1 hz2)))
  have HH := Lib.hid h
  have HL := Lib.hid hn
  clear h hn hi hz0 hz1 hz2
  go_enter Try.func25, Try.ntmps25
  go_wp2_with fail
  go_loopg [3, 4, 5, 6] (n + 1) (fun gk s3 s4 s5 s6 wr => ∃ (i c' : Nat) (A' : Option Addr), s3 = .slice A' (nodesL (flatN (ps.take i))).length c' ∧ s4 = .int .i64 i ∧ gk + i = n + 1 ∧ i ≤ n ∧ Hid (OwnI wr w.heap.size (.slice A' (nodesL (flatN (ps.take i))).length c') (nodesL (flatN (ps.take i))) ∧ Below w.heap.size w wr))
  case atStart => exact ⟨0, 0, none, rfl, rfl, by omega, by omega, World.ownsRow_nil _ _ _ _, Below.refl _ _⟩
  case round =>
    obtain ⟨i, c', A', rfl, rfl, hgi, hin, HI⟩ := hrel
    obtain ⟨gz, hgz⟩ : ∃ gz, gk = gz := ⟨_, rfl⟩
    rw [hgz] at hgi
    by_cases hlt : i < n
    · have hil : i < ps.length := by have := HL.out; omega
      obtain ⟨g, o, rfl, hg, hc⟩ := HH.out (by omega)
      obtain ⟨x0, x1⟩ := hc i hil
      have hfl : flatN (ps.take (i + 1)) = flatN (ps.take i) ++ [(ps[i]).1] ++ [(ps[i]).2] := by
        rw [List.take_add_one, List.getElem?_eq_getElem hil]
        exact flatN_snoc _ _
      have hlen : (flatN (ps.take i)).length ≤ 2000 := by rw [flatN_len]; simp; omega
      have HFL := Lib.hid hfl
      obtain ⟨p, hp⟩ : ∃ p, ps[i] = p := ⟨_, rfl⟩
      rw [hp] at x0 x1 HFL
      obtain ⟨a, b⟩ := p
      obtain ⟨ns0, hns0⟩ : ∃ ns0, flatN (ps.take i) = ns0 := ⟨_, rfl⟩
      rw [hns0] at HI HFL hlen ⊢
      have b1 : (0 : Int) ≤ (i : Int) := Int.natCast_nonneg i
      have b2 : (i : Int) < (n : Int) := Int.ofNat_lt.2 hlt
      have HX : Hid (∀ W, Below w.heap.size w W → ∀ j : Nat, j < 2 → W.cell? ⟨g, o + i * 2 + j, none⟩ = some (.int .i64 (if j = 0 then a else b))) := by
        intro W hW j hj
        rcases (show j = 0 ∨ j = 1 by omega) with rfl | rfl
        · exact (hW.cell (p := ⟨g, _, none⟩) hg).trans x0
        · exact (hW.cell (p := ⟨g, _, none⟩) hg).trans x1
      clear hc hfl hp hns0 x0 x1
      go_wp2_with fail
      go_loopg [3, 5, 6] 3 (fun gk s3 s5 s6 wr => ∃ (j c' : Nat) (A' : Option Addr), s3 = .slice A' (nodesL (ns0 ++ [a, b].take j)).length c' ∧ s5 = .int .i64 j ∧ gk + j = 3 ∧ j ≤ 2 ∧ Hid (OwnI wr w.heap.size (.slice A' (nodesL (ns0 ++ [a, b].take j)).length c') (nodesL (ns0 ++ [a, b].take j)) ∧ Below w.heap.size w wr))
      case atStart => exact ⟨0, c', A', by simp, rfl, by omega, by omega, by (have := HI.out; unfold Hid; simpa using this)⟩
      case round =>
        obtain ⟨j, c', A', rfl, rfl, hgj, hj2, HQ⟩ := hrel
        clear HI
        by_cases hjl : j < 2
        · have x0 := HX.out wr HQ.out.2 j hjl
          obtain ⟨x, hx⟩ : ∃ x, (if j = 0 then a else b) = x := ⟨_, rfl⟩
          have htk : [a, b].take (j + 1) = [a, b].take j ++ [x] := by
            rcases (show j = 0 ∨ j = 1 by omega) with rfl | rfl <;> (subst hx; rfl)
          rw [hx] at x0
          have HTK : Hid (ns0 ++ [a, b].take (j + 1) = (ns0 ++ [a, b].take j) ++ [x]) := by unfold Hid; rw [htk, List.append_assoc]
          have hll : (ns0 ++ [a, b].take j).length ≤ 2002 := by simp; omega
          obtain ⟨ns, hns⟩ : ∃ ns, ns0 ++ [a, b].take j = ns := ⟨_, rfl⟩
          rw [hns] at HQ HTK hll ⊢
          have hnl := nodesL_len ns
          have hsn := nodesL_snoc ns x
          have HSN := Lib.hid hsn
          obtain ⟨out, hout⟩ : ∃ out, nodesL ns = out := ⟨_, rfl⟩
          rw [hout] at HQ HSN hnl ⊢
          have d1 : (0 : Int) ≤ (j : Int) := Int.natCast_nonneg j
          have d2 : (j : Int) < 2 := by omega
          have HINC : Hid (∀ (W : World), Below wr.heap.size wr W → Calls Try.prog 30 #[.slice A' out.length c', .int .i64 x] W fun e w' => e = .returned (.bool (decide (x ∈ out))) ∧ W = w') := fun W hW => in_any A' out.length c' out x W (HQ.out.1.row.later hW) rfl (by omega)
          clear hx htk hns hsn hout
          cases hN : isN x with
          | false =>
            have HN := Lib.hid hN
            clear hN
            go_wp2_with (go_at_call 20; refine (refIs_any x _).mono ?_; rintro e w' ⟨rfl, rfl⟩; rw [HN.out])
            go_roundg (gk - 1)
            case rel =>
              have e1 : nodesL (ns ++ [x]) = out := by rw [HSN.out]; unfold stepN; rw [if_neg (by rw [HN.out]; simp)]
              refine ⟨j + 1, c', A', ?_, by go_num, by omega, by omega, ?_⟩
              · rw [HTK.out, e1]
              · rw [HTK.out, e1]; exact HQ.out
            case measure => omega
          | true =>
            have HN := Lib.hid hN
            clear hN
            by_cases hmem : x ∈ out
            · have t : decide (x ∈ out) = true := by simpa using hmem
              have HT := Lib.hid t
              have HMM := Lib.hid hmem
              clear t hmem
              go_wp2_with (first
                | (go_at_call 20; refine (refIs_any x _).mono ?_; rintro e w' ⟨rfl, rfl⟩; rw [HN.out])
                | (go_at_call 30; refine (HINC.out _ (Below.refl _ _)).mono ?_; rintro e w' ⟨rfl, rfl⟩; rw [HT.out])
                | fail)
              go_roundg (gk - 1)
              case rel =>
                have e1 : nodesL (ns ++ [x]) = out := by rw [HSN.out]; unfold stepN; rw [if_neg (fun h => h.2 HMM.out)]
                refine ⟨j + 1, c', A', ?_, by go_num, by omega, by omega, ?_⟩
                · rw [HTK.out, e1]
                · rw [HTK.out, e1]; exact HQ.out
              case measure => omega
            · have t : decide (x ∈ out) = false := by simpa using hmem
              have HT := Lib.hid t
              have HMM := Lib.hid hmem
              clear t hmem
              have O1 := Lib.hid (HQ.out.1.more (.cells #[.int .i64 x] 3))
              have h63 : Hid (out.length + 1 ≤ maxLen) := by unfold Hid maxLen; omega
              have h47 : Hid ((out.length + 1) * 8 ≤ 140737488355328) := by unfold Hid; omega
              have hsz : Hid (w.heap.size ≤ (wr.alloc (.cells #[.int .i64 x] 3)).heap.size) := by unfold Hid; have := HQ.out.2.size; simp; omega
              have BA := Lib.hid (HQ.out.2.alloc HQ.out.2.size (.cells #[.int .i64 x] 3))
              go_wp2_with (first
                | (go_at_call 20; refine (refIs_any x _).mono ?_; rintro e w' ⟨rfl, rfl⟩; rw [HN.out])
                | (go_at_call 30; refine (HINC.out _ (Below.refl _ _)).mono ?_; rintro e w' ⟨rfl, rfl⟩; rw [HT.out])
                | (at_builtin; refine wpList_append_own _ rfl _ _ 30 rfl w.heap.size 3 i0 _ 1 8 Try.underlying30 HZ.out.1 HZ.out.2.1 HZ.out.2.2.1 HZ.out.2.2.2 rfl Nat.one_pos _ out.length (iz out) rfl O1.out ⟨wr.heap.size, 0, none⟩ 1 1 [.int .i64 x] rfl rfl (cell_one_new _ _ _) one_int h63.out h47.out hsz.out ?_; intro v' w1 hown hgrow _; have G1 := Lib.hid hown; have G2 := Lib.hid hgrow; obtain ⟨g', cap', rfl⟩ := ownsRow_succ hown; clear hown hgrow)
                | fail)
              go_roundg (gk - 1)
              case rel =>
                have e1 : nodesL (ns ++ [x]) = out ++ [x] := by rw [HSN.out]; unfold stepN; rw [if_pos ⟨HN.out, HMM.out⟩]
                refine ⟨j + 1, cap', some ⟨g', 0, none⟩, ?_, by go_num, by omega, by omega, ?_⟩
                · rw [HTK.out, e1, List.length_append]; rfl
                · rw [HTK.out, e1]
                  refine ⟨?_, BA.out.grown G2.out hsz.out (fun k hk => (O1.out.lt k hk).1)⟩
                  unfold OwnI iz
                  rw [List.length_append, List.map_append]
                  exact G1.out
              case measure => omega
        · obtain rfl : j = 2 := by omega
          go_wp2_with fail
          go_roundg (gz - 1)
          case rel =>
            refine ⟨i + 1, c', A', ?_, by go_num, by omega, by omega, ?_⟩
            · rw [HFL.out, List.append_assoc]; rfl
            · rw [HFL.out, List.append_assoc]; exact HQ.out
          case measure => omega
    · obtain rfl : i = n := by omega
      have hI := HI.out
      rw [List.take_of_length_le (by rw [HL.out]; exact Nat.le_refl _)] at hI
      have HJ := Lib.hid hI
      clear hI
      go_wp2_with fail
      go_ret
      have e : ps.take i = ps := List.take_of_length_le (by rw [HL.out]; exact Nat.le_refl _)
      refine ⟨_, rfl, ?_, HJ.out.2⟩
      rw [e]
      exact HJ.out.1
end Go.Proofs.Ytikceomnkkpljaa
