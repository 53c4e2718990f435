/-
  The walk of the document's words. No condition beyond at most 3,000 bytes.
-/
import Derived.Test.YtgpdenhgbipopaaSum
import Derived.OwnWalk
import Derived.Laws.OwnMore
namespace Go.Proofs.Ytgpdenhgbipopaa
open Go.ChangeShapes Go.WideShapes Go.ChangeAt Go.RowKit
set_option linter.unusedVariables false

theorem info22 : (Try.prog.info? 22).map (fun i => (i.zero, i.size, i.bytes)) = some (some (.int .u64 0), 1, 8) := by kernel_rfl
/-- The bytes from place a on, up to place b. -/
def part (bs : List Int) (i j : Nat) : Int := wd ((bs.drop (8 * i + j)).take (8 - j))
theorem part_8 (bs : List Int) (i : Nat) : part bs i 8 = 0 := by simp [part, wd]
theorem part_0 (bs : List Int) (i : Nat) : part bs i 0 = wI bs i := rfl
theorem part_in (bs : List Int) (i j : Nat) (hj : j < 8) (h : 8 * i + j < bs.length) : part bs i j = bs.getD (8 * i + j) 0 + 256 * part bs i (j + 1) := by
  unfold part
  rw [List.drop_eq_getElem_cons h, show 8 - j = (8 - (j + 1)) + 1 by omega, List.take_succ_cons, wd, List.getD_eq_getElem?_getD, List.getElem?_eq_getElem h]
  rfl
theorem part_out (bs : List Int) (i j : Nat) (h : ¬ 8 * i + j < bs.length) : part bs i j = 256 * part bs i (j + 1) := by
  unfold part
  rw [List.drop_eq_nil_of_le (by omega), List.drop_eq_nil_of_le (by omega)]
  simp [wd]
theorem part_bd (bs : List Int) (i j : Nat) (hj : 1 ≤ j) (h : Bytes bs) : 0 ≤ part bs i j ∧ part bs i j < 72057594037927936 := by
  have hb : Bytes ((bs.drop (8 * i + j)).take (8 - j)) := fun x hx => h x (List.mem_of_mem_drop (List.mem_of_mem_take hx))
  have h1 := wd_nonneg hb
  have h2 := wd_lt hb
  refine ⟨h1, ?_⟩
  have hl : ((bs.drop (8 * i + j)).take (8 - j)).length ≤ 7 := by rw [List.length_take]; omega
  unfold part
  generalize ((bs.drop (8 * i + j)).take (8 - j)).length = m at *
  have h3 : (256 : Int) ^ m ≤ 256 ^ 7 := by
    rcases (show m = 0 ∨ m = 1 ∨ m = 2 ∨ m = 3 ∨ m = 4 ∨ m = 5 ∨ m = 6 ∨ m = 7 by omega) with rfl | rfl | rfl | rfl | rfl | rfl | rfl | rfl <;> decide
  have h4 : (256 : Int) ^ 7 = 72057594037927936 := by decide
  omega
def wlist (bs : List Int) (m : Nat) : List Int := (List.range m).map (wI bs)
theorem wlist_len (bs : List Int) (m : Nat) : (wlist bs m).length = m := by simp [wlist]
theorem wlist_snoc (bs : List Int) (m : Nat) : wlist bs (m + 1) = wlist bs m ++ [wI bs m] := by simp [wlist, List.range_succ]

def OwnW (w : World) (B : Nat) (v : Value) (zs : List Int) : Prop := w.ownsRow B 22 1 v zs.length (zs.map (Value.int .u64))
theorem OwnW.form {w : World} {B : Nat} {v : Value} {zs : List Int} (h : OwnW w B v zs) : ∃ A c, v = .slice A zs.length c := by
  rcases h.2 with ⟨rfl, h0⟩ | ⟨g, cap, cur, rfl, _⟩
  · exact ⟨none, 0, by rw [h0]⟩
  · exact ⟨_, _, rfl⟩
theorem cell1 {w : World} {n : Nat} {t : TypeId} {x : Value} (h : w.heap[n]? = some (.cells #[x] t (0, 0))) : ∀ j u, [x][j]? = some u → w.cell? ((⟨n, 0, none⟩ : Addr).add j) = some u := by
  intro j u hj
  match j, hj with
  | 0, hj => simp at hj; subst hj; simp [Addr.add, World.cell?, h]
theorem stepW {w wr w1 : World} {v v' : Value} {zs : List Int} {z : Int} {o : Obj} (h : OwnW wr w.heap.size v zs) (hb : Below w.heap.size w wr)
    (h' : w1.ownsRow w.heap.size 22 1 v' (zs.length + 1) (zs.map (Value.int .u64) ++ [.int .u64 z])) (hg : (wr.alloc o).grownBy w1 v.ownBlock) :
    OwnW w1 w.heap.size v' (zs ++ [z]) ∧ Below w.heap.size w w1 := by
  refine ⟨?_, ?_⟩
  · unfold OwnW; rw [List.length_append, List.map_append]; exact h'
  · exact (hb.alloc hb.size o).grown hg (by have := hb.size; simp; omega) (fun k hk => (h.lt k hk).1)

theorem wI_last {w : World} {A : Option Addr} {n : Nat} {bs : List Int} (h : BRow w A n bs) : 0 ≤ wI bs (n / 8) ∧ wI bs (n / 8) < 72057594037927936 := by
  have hb : Bytes ((bs.drop (8 * (n / 8))).take 8) := fun x hx => h.2.1 x (List.mem_of_mem_drop (List.mem_of_mem_take hx))
  have h1 := wd_nonneg hb
  have h2 := wd_lt hb
  refine ⟨h1, ?_⟩
  have hl : ((bs.drop (8 * (n / 8))).take 8).length ≤ 7 := by rw [List.length_take, List.length_drop, h.1]; omega
  unfold wI
  generalize ((bs.drop (8 * (n / 8))).take 8).length = m at *
  have h3 : (256 : Int) ^ m ≤ 256 ^ 7 := by
    rcases (show m = 0 ∨ m = 1 ∨ m = 2 ∨ m = 3 ∨ m = 4 ∨ m = 5 ∨ m = 6 ∨ m = 7 by omega) with rfl | rfl | rfl | rfl | rfl | rfl | rfl | rfl <;> decide
  have h4 : (256 : Int) ^ 7 = 72057594037927936 := by decide
  omega
/-- The so many-th word, the last one with how many bytes there are. -/
def wJ (bs : List Int) (j : Nat) : Int := if j = bs.length / 8 then lastW bs else wI bs j
def WPost (w : World) (n : Nat) (bs : List Int) (e : Ending) (w' : World) : Prop :=
  ∃ g c, e = .returned (.slice (some ⟨g, 0, none⟩) (n / 8 + 1) c) ∧ w.heap.size ≤ g ∧ g < w'.heap.size ∧ (∀ j, j < n / 8 + 1 → w'.cell? ⟨g, j, none⟩ = some (.int .u64 (wJ bs j))) ∧ Below w.heap.size w w'

set_option maxRecDepth 100000 in
theorem words_any (A : Option Addr) (n c : Nat) (bs : List Int) (w : World) (h : BRow w A n bs) (hn : n ≤ 3000) :
    Calls Try.prog 29 #[.slice A n c] w (WPost w n bs) := by
  obtain ⟨i0, hi, hz0, hz1, hz2⟩ := info_parts info22
  have HZ := Lib.hid (And.intro hi (And.intro hz0 (And.intro hz1 hz2)))
  have HH := Lib.hid h
  clear h hi hz0 hz1 hz2
  go_enter Try.func29, Try.ntmps29
  go_wp2_with fail
  go_loopg [3, 4, 5, 6, 7] (n / 8 + 1) (fun gk s3 s4 s5 s6 s7 wr => ∃ (i c' : Nat) (A' : Option Addr), s3 = .slice A' i c' ∧ s4 = .int .i64 i ∧ gk + i = n / 8 + 1 ∧ Hid (Below w.heap.size w wr ∧ OwnW wr w.heap.size (.slice A' i c') (wlist bs i)))
  case atStart => exact ⟨0, 0, none, rfl, rfl, by omega, Below.refl _ _, World.ownsRow_nil _ _ _ _⟩
  case round =>
    obtain ⟨i, c', A', rfl, rfl, hgi, HI⟩ := hrel
    by_cases hlt : i ≤ n / 8
    · go_wp2_with fail
      go_loop [5, 6, 7] (fun v kk at_ => ∃ j : Nat, kk = .int .i64 ((j : Int) - 1) ∧ j ≤ 8 ∧ Hid (v = .int .u64 (part bs i j))) (fun _ kk _ => (intOf kk + 1).toNat)
      case atStart => exact ⟨8, by go_num, by omega, by unfold Hid; rw [part_8]⟩
      case round =>
        obtain ⟨j, rfl, hj, HJ⟩ := hrel
        by_cases h0 : 0 < j
        · obtain ⟨m, rfl⟩ : ∃ m, j = m + 1 := ⟨j - 1, by omega⟩
          have e1 : (((m + 1 : Nat) : Int) - 1) = (m : Int) := by omega
          rw [e1]
          have hv := HJ.out
          subst hv
          have hpb := part_bd bs i (m + 1) (by omega) HH.out.2.1
          by_cases hin : 8 * i + m < n
          · have hp := part_in bs i m (by omega) (by rw [HH.out.1]; exact hin)
            obtain ⟨g, o, rfl, hg, hc⟩ := HH.out.2.2 (by omega)
            have hcx := (HI.out.1.cell (p := ⟨g, _, none⟩) hg).trans (hc (8 * i + m) hin)
            have hby : 0 ≤ bs.getD (8 * i + m) 0 ∧ bs.getD (8 * i + m) 0 ≤ 255 := by
              rw [List.getD_eq_getElem?_getD, List.getElem?_eq_getElem (by rw [HH.out.1]; exact hin)]; exact HH.out.2.1 _ (List.getElem_mem _)
            generalize bs.getD (8 * i + m) 0 = z at *
            generalize part bs i (m + 1) = q at *
            have HP := Lib.hid hp
            clear hp hc e1
            go_wp2
            go_round
            case rel => exact ⟨m, rfl, by omega, by unfold Hid; rw [HP.out]; exact congrArg (Value.int .u64) (by omega)⟩
            case measure => simp [intOf]
          · have hp := part_out bs i m (by rw [HH.out.1]; exact hin)
            generalize part bs i (m + 1) = q at *
            have HP := Lib.hid hp
            clear hp e1
            go_wp2
            go_round
            case rel => exact ⟨m, rfl, by omega, by unfold Hid; rw [HP.out]; exact congrArg (Value.int .u64) (by omega)⟩
            case measure => simp [intOf]
        · obtain rfl : j = 0 := by omega
          have hv := HJ.out
          rw [part_0] at hv
          subst hv
          obtain ⟨z, hz⟩ : ∃ z, wI bs i = z := ⟨_, rfl⟩
          rw [hz]
          have HWZ := Lib.hid hz
          clear hz HJ
          go_wp2_with (at_builtin; refine wpList_append_own _ rfl _ _ 55 rfl w.heap.size 22 i0 _ 1 8 Try.underlying55 HZ.out.1 HZ.out.2.1 HZ.out.2.2.1 HZ.out.2.2.2 rfl (by decide) _ i ((wlist bs i).map (Value.int .u64)) rfl (World.ownsRow.alloc (by have := HI.out.2; unfold OwnW at this; rw [wlist_len] at this; exact this) _) ⟨wr.heap.size, 0, none⟩ 1 1 [.int .u64 z] rfl rfl ?c1 ?c2 ?c3 ?c4 ?c5 ?_)
          case c2 => rfl
          case c3 => unfold maxLen; omega
          case c4 => omega
          case c5 => have := HI.out.1.size; simp; omega
          intro v' w1 hown hgrow _
          have R := stepW (zs := wlist bs i) (z := z) HI.out.2 HI.out.1 (by rw [wlist_len]; exact hown) hgrow
          rw [← HWZ.out, ← wlist_snoc] at R
          obtain ⟨A2, c2, hv⟩ := R.1.form
          rw [wlist_len] at hv
          have HR := Lib.hid R
          rw [hv]
          have HV := Lib.hid hv
          clear R hown hgrow hv
          go_wp2
          go_roundg (gk - 1)
          case rel => exact ⟨i + 1, c2, A2, rfl, by go_num, by omega, HR.out.2, HV.out ▸ HR.out.1⟩
          case measure => omega
    · obtain rfl : i = n / 8 + 1 := by omega
      have hown := HI.out.2
      rcases hown.2 with ⟨hv, h0⟩ | ⟨g, cap, cur, hv, hg, hh, hcap, hmax, hsz, htk⟩
      · rw [wlist_len] at h0; omega
      injection hv with hA hA1 hA2
      clear hA1 hA2
      subst hA
      have hgl : g < wr.heap.size := lt_of_block hh
      rw [wlist_len] at hcap htk
      have hcell : ∀ j, j < n / 8 + 1 → cur[j]? = some (.int .u64 (wI bs j)) := by
        intro j hj
        have h1 : (cur.toList.take ((n / 8 + 1) * 1))[j]? = some (.int .u64 (wI bs j)) := by
          rw [htk]; simp [wlist, hj]
        rw [List.getElem?_take, if_pos (by omega)] at h1
        simpa using h1
      have hB : Blk wr g 22 cur := hh
      have x0 : wr.cell? ⟨g, n / 8, none⟩ = some (.int .u64 (wI bs (n / 8))) := (hB.cell _).trans (hcell _ (by omega))
      have f0 := hB.free (n / 8)
      have HCELL := Lib.hid hcell
      have HB := Lib.hid hB
      clear hown hcell hh hcap hmax hsz htk hB hgi
      go_wp2
      go_ret
      have hlast := wI_last HH.out
      have hl2 : IntKind.u64.wrap (wI bs (n / 8) + (n : Int) % 256 * 72057594037927936) = lastW bs := by
        unfold lastW
        rw [HH.out.1, IntWalk.u64_in _ (by omega)]
        omega
      rw [hl2]
      have hB2 := HB.out.put (n / 8) (.int .u64 (lastW bs)) rfl
      refine ⟨g, c', rfl, hg, by simp only [World.size_setCell]; exact hgl, fun j hj => ?_, HI.out.1.setCell hg _⟩
      rw [hB2.cell, Array.getElem?_setIfInBounds]
      by_cases hjn : n / 8 = j
      · subst hjn
        have := HCELL.out (n / 8) (by omega)
        rw [Array.getElem?_eq_some_iff] at this
        obtain ⟨hh, _⟩ := this
        simp only [hh, if_true, wJ, HH.out.1]
      · rw [if_neg hjn, HCELL.out j (by omega)]
        unfold wJ
        rw [if_neg (by rw [HH.out.1]; omega)]
end Go.Proofs.Ytgpdenhgbipopaa
