/-
  The document's Add at nil, Remove and Same: their walks. No condition beyond a row of a machine's size.
-/
import Derived.Test.YthcfgchlaagfkaaRefs
import Derived.ChangeKeysEq
import Derived.Laws.StructEq
namespace Go.Proofs.Ythcfgchlaagfkaa
open Go.ChangeShapes Go.WideShapes Go.ChangeAt Go.RowKit
set_option linter.unusedVariables false
set_option linter.unusedSimpArgs false

set_option maxHeartbeats 1600000 in
theorem refAdd_none (a id : Int) (w : World) :
    Calls Try.prog 8 #[.slice none 0 0, .int .i64 a, .int .i64 id] w fun e w' => ∃ A' c', e = .returned (.slice A' 1 c') ∧ RefIs w' A' 1 c' [(a, id)] ∧ Below w.heap.size w w' := by
  obtain ⟨i0, hi, hz0, hz1, hz2⟩ := info_parts info32
  have HZ := Lib.hid (And.intro hi (And.intro hz0 (And.intro hz1 hz2)))
  clear hi hz0 hz1 hz2
  go_enter Try.func8, Try.ntmps8
  go_wp2_with fail
  go_loopg [7] 1 (fun gk s7 wr => s7 = .int .i64 0 ∧ gk = 1 ∧ wr = w)
  case atStart => exact ⟨rfl, rfl, rfl⟩
  case round =>
    obtain ⟨rfl, rfl, rfl⟩ := hrel
    have O0 : Hid ((wr.alloc (.cells #[] 32)).ownsRow wr.heap.size 32 2 (.slice (some ⟨wr.heap.size, 0, none⟩) 0 0) 0 []) := ⟨rfl, Or.inr ⟨wr.heap.size, 0, #[], rfl, Nat.le_refl _, heap_alloc_new wr _, Nat.le_refl _, by unfold maxLen; omega, rfl, rfl⟩⟩
    have B0 : Hid (Below wr.heap.size wr (wr.alloc (.cells #[] 32))) := (Below.refl _ _).alloc (Nat.le_refl _) _
    have B1 : Hid (Below wr.heap.size wr ((wr.alloc (.cells #[] 32)).alloc (.cells #[.int .i64 a, .int .i64 id] 32))) := B0.out.alloc B0.out.size _
    have G1 : Hid (((wr.alloc (.cells #[] 32)).alloc (.cells #[.int .i64 a, .int .i64 id] 32)).ownsRow wr.heap.size 32 2 (.slice (some ⟨wr.heap.size, 0, none⟩) 0 0) 0 []) := own_later O0.out ((Below.refl _ _).alloc (Nat.le_refl _) _)
    have hs : (wr.alloc (.cells #[] 32)).heap.size = wr.heap.size + 1 := by simp
    have HNW : Hid (∀ j u, [Value.int .i64 a, .int .i64 id][j]? = some u → ((wr.alloc (.cells #[] 32)).alloc (.cells #[.int .i64 a, .int .i64 id] 32)).cell? ((⟨wr.heap.size + 1, 0, none⟩ : Addr).add j) = some u) := by
      rw [← hs]
      exact fun j u hj => cells2 j u hj
    clear hs
    go_wp2_with (first
      | (at_builtin; refine wpList_append_own_none rfl _ _ 25 rfl wr.heap.size 32 i0 2 Try.underlying25 HZ.out.1 (.slice (some ⟨wr.heap.size, 0, none⟩) 0 0) 0 [] rfl O0.out rfl ?_)
      | (at_builtin; refine wpList_append_own _ rfl _ _ 25 rfl wr.heap.size 32 i0 _ 2 16 Try.underlying25 HZ.out.1 HZ.out.2.1 HZ.out.2.2.1 HZ.out.2.2.2 rfl (by decide) (.slice (some ⟨wr.heap.size, 0, none⟩) 0 0) 0 [] rfl G1.out ⟨wr.heap.size + 1, 0, none⟩ 1 1 [.int .i64 a, .int .i64 id] rfl rfl HNW.out one2 (by unfold maxLen; omega) (by omega) B1.out.size ?_; intro v2 w2 hown hgrow _; rw [Nat.zero_add, List.nil_append] at hown; have K1 := Lib.hid hown; have K2 := Lib.hid (B1.out.grown hgrow B1.out.size (fun k hk => (G1.out.lt k hk).1)); clear hown hgrow)
      | (at_builtin; refine wpList_append_own_none rfl _ _ 25 rfl wr.heap.size 32 i0 2 Try.underlying25 HZ.out.1 v2 1 _ rfl K1.out rfl ?_)
      | fail)
    go_ret
    have hk := K1.out
    obtain ⟨A3, c3, rfl⟩ := own_form hk (by decide) hk.1
    exact ⟨A3, c3, rfl, RefIs.of_own hk rfl, K2.out⟩
theorem refAdd_any (A : Option Addr) (n c : Nat) (r : List (Int × Int)) (a id : Int) (w : World) (h : RefIs w A n c r) (hm : n ≤ 1000) :
    Calls Try.prog 8 #[.slice A n c, .int .i64 a, .int .i64 id] w fun e w' => ∃ A' c' i, i ≤ n ∧ PutAt a id r i ∧ e = .returned (.slice A' (n + 1) c') ∧ RefIs w' A' (n + 1) c' (r.take i ++ [(a, id)] ++ r.drop i) ∧ Below w.heap.size w w' := by
  rcases h.shape with ⟨rfl, rfl, rfl, rfl⟩ | ⟨g, o, rfl⟩
  · refine (refAdd_none a id w).mono ?_
    rintro e w' ⟨A', c', rfl, h1, h2⟩
    exact ⟨A', c', 0, Nat.le_refl _, ⟨by intro p hp; simp at hp, by intro p hp; simp at hp⟩, rfl, h1, h2⟩
  · exact refAdd_some g o n c r a id w h hm
def keepP (id : Int) (r : List (Int × Int)) : List (Int × Int) := r.filter (fun p => p.2 != id)
set_option maxHeartbeats 1600000 in
theorem refRemove_any (A : Option Addr) (n c : Nat) (r : List (Int × Int)) (id : Int) (w : World) (h : RefIs w A n c r) (hm : n ≤ 1000) :
    Calls Try.prog 10 #[.slice A n c, .int .i64 id] w fun e w' => ∃ A' c', e = .returned (.slice A' (keepP id r).length c') ∧ RefIs w' A' (keepP id r).length c' (keepP id r) ∧ Below w.heap.size w w' := by
  obtain ⟨i0, hi, hz0, hz1, hz2⟩ := info_parts info32
  have HZ := Lib.hid (And.intro hi (And.intro hz0 (And.intro hz1 hz2)))
  have HH := Lib.hid h
  have HN := Lib.hid h.1
  clear h hi hz0 hz1 hz2
  go_enter Try.func10, Try.ntmps10
  go_wp2_with fail
  go_loopg [5, 6] (n + 1) (fun gk s5 s6 wr => ∃ (i k c' : Nat) (A' : Option Addr), s5 = .slice A' k c' ∧ s6 = .int .i64 i ∧ gk + i = n + 1 ∧ i ≤ n ∧ k ≤ i ∧ Hid (wr.ownsRow w.heap.size 32 2 (.slice A' k c') k (flat2 (keepP id (r.take i))) ∧ (keepP id (r.take i)).length = k ∧ Below w.heap.size w wr))
  case atStart => exact ⟨0, 0, 0, none, rfl, rfl, by omega, by omega, by omega, World.ownsRow_nil _ _ _ _, rfl, Below.refl _ _⟩
  case round =>
    obtain ⟨i, k, c', A', rfl, rfl, hgi, hin, hki, HI⟩ := hrel
    by_cases hlt : i < n
    · have hil : i < r.length := by have := HN.out; omega
      rcases HH.out.shape with ⟨_, _, h0, _⟩ | ⟨g, o, rfl⟩
      · omega
      · obtain ⟨x0, x1⟩ := (HH.out.later HI.out.2.2).at_ i hil
        have htk : keepP id (r.take (i + 1)) = keepP id (r.take i) ++ (if (r[i]).2 != id then [r[i]] else []) := by
          unfold keepP
          rw [List.take_add_one, List.getElem?_eq_getElem hil, List.filter_append]
          by_cases hx : (r[i]).2 != id <;> simp [hx]
        generalize r[i] = p at *
        obtain ⟨pa, pb⟩ := p
        have b1 : (0 : Int) ≤ (i : Int) := by omega
        have b2 : (i : Int) < (n : Int) := by omega
        by_cases hx : (pb != id) = true
        · rw [if_pos hx] at htk
          have HTK := Lib.hid htk
          have hal : Below wr.heap.size wr (wr.alloc (.cells #[.int .i64 pa, .int .i64 pb] 32)) := (Below.refl _ _).alloc (Nat.le_refl _) _
          have RW := Lib.hid (own_later HI.out.1 hal)
          have HW2 := Lib.hid (HI.out.2.2.trans (hal.mono HI.out.2.2.size))
          have h63 : Hid (k + 1 ≤ maxLen) := by unfold Hid maxLen; omega
          have h47 : Hid ((k + 1) * 16 ≤ 140737488355328) := by unfold Hid; omega
          have HST : Hid (∀ (v4 : Value) (w4 : World), w4.ownsRow w.heap.size 32 2 v4 (k + 1) (flat2 (keepP id (r.take i)) ++ [.int .i64 pa, .int .i64 pb]) → (wr.alloc (.cells #[.int .i64 pa, .int .i64 pb] 32)).grownBy w4 (Value.slice A' k c').ownBlock →
              w4.ownsRow w.heap.size 32 2 v4 (k + 1) (flat2 (keepP id (r.take (i + 1)))) ∧ (keepP id (r.take (i + 1))).length = k + 1 ∧ Below w.heap.size w w4) := by
            intro v4 w4 hown hgrow
            refine ⟨by rw [HTK.out, flat2_append]; exact hown, by rw [HTK.out, List.length_append, HI.out.2.1]; rfl, HW2.out.grown hgrow HW2.out.size (fun k hk => (RW.out.lt k hk).1)⟩
          clear htk hal
          go_wp2_with (first
            | (at_builtin; refine wpList_append_own _ rfl _ _ 25 rfl w.heap.size 32 i0 _ 2 16 Try.underlying25 HZ.out.1 HZ.out.2.1 HZ.out.2.2.1 HZ.out.2.2.2 rfl (by decide) (.slice A' k c') k (flat2 (keepP id (r.take i))) rfl RW.out ⟨wr.heap.size, 0, none⟩ 1 1 [.int .i64 pa, .int .i64 pb] rfl rfl cells2 one2 h63.out h47.out HW2.out.size ?_; intro v4 w4 hown hgrow _; obtain ⟨A4, c4, rfl⟩ := own_form hown (by decide) hown.1; have HREL := Lib.hid (HST.out _ w4 hown hgrow); clear hown hgrow)
            | fail)
          go_roundg (gk - 1)
          case rel => exact ⟨i + 1, k + 1, c4, A4, rfl, by go_num, by omega, by omega, by omega, HREL.out⟩
          case measure => omega
        · have hx2 : (pb != id) = false := by simpa using hx
          rw [if_neg hx, List.append_nil] at htk
          have HREL : Hid (wr.ownsRow w.heap.size 32 2 (.slice A' k c') k (flat2 (keepP id (r.take (i + 1)))) ∧ (keepP id (r.take (i + 1))).length = k ∧ Below w.heap.size w wr) := by
            unfold Hid
            rw [htk]
            exact HI.out
          clear htk hx
          go_wp2_with fail
          go_roundg (gk - 1)
          case rel => exact ⟨i + 1, k, c', A', rfl, by go_num, by omega, by omega, by omega, HREL.out⟩
          case measure => omega
    · obtain rfl : i = n := by omega
      have hh := HI.out
      rw [List.take_of_length_le (by rw [HN.out]; omega)] at hh
      have HE := Lib.hid hh
      clear hh
      go_wp2_with fail
      go_ret
      rw [HE.out.2.1]
      exact ⟨_, _, rfl, RefIs.of_own HE.out.1 HE.out.2.1, HE.out.2.2⟩
end Go.Proofs.Ythcfgchlaagfkaa
