/-
  Two lists of pairs: the document's Same, at equal lists; and the plain law of lists in order. No condition.
-/
import Derived.Test.YthcfgchlaagfkaaRefs2
namespace Go.Proofs.Ythcfgchlaagfkaa
open Go.ChangeShapes Go.WideShapes Go.ChangeAt Go.RowKit
set_option linter.unusedVariables false
set_option linter.unusedSimpArgs false

theorem eqI64 (x y : Int) (d : Nat) (w : World) : (Op.equalIn (d + 1) 3 (.int .i64 x) (.int .i64 y)).run Try.prog w = .ok (x == y) w := run_equalIn_int w d 3 .i64 .i64 x y Try.underlying3
theorem isAgg3 (w : World) : (isAgg 3).run Try.prog w = .ok false w := by
  unfold isAgg
  rw [Sem.run_bind, run_underlying Try.underlying3 w]
  rfl
theorem part3 (cs : Array Value) (i : Nat) (v : Value) (w : World) (h : cs[i]? = some v) : (part 3 cs i).run Try.prog w = .ok v w := by
  unfold part
  simp only [Sem.run_bind, isAgg3, Result.andThen_ok, h]
  rfl
theorem cellsOf3 : Try.prog.cellsOf 3 = 1 := by kernel_rfl
theorem eqItems2 (d : Nat) (a b a' b' : Int) (w : World) : (Op.eqItems (d + 1) 3 1 #[.int .i64 a, .int .i64 b] #[.int .i64 a', .int .i64 b'] [0, 1]).run Try.prog w = .ok (a == a' && b == b') w := by
  have p1 := part3 #[.int .i64 a, .int .i64 b] 0 (.int .i64 a) w rfl
  have p2 := part3 #[.int .i64 a', .int .i64 b'] 0 (.int .i64 a') w rfl
  have p3 := part3 #[.int .i64 a, .int .i64 b] 1 (.int .i64 b) w rfl
  have p4 := part3 #[.int .i64 a', .int .i64 b'] 1 (.int .i64 b') w rfl
  by_cases h : a = a'
  · subst h
    by_cases h2 : b = b'
    · subst h2
      simp [Op.eqItems, Sem.run_bind, p1, p3, Result.andThen_ok, eqI64]
    · simp [Op.eqItems, Sem.run_bind, p1, p2, p3, p4, Result.andThen_ok, eqI64, h2]
  · simp [Op.eqItems, Sem.run_bind, p1, p2, p3, p4, Result.andThen_ok, eqI64, h]
theorem eq32 (a b a' b' : Int) (w : World) : (Op.equalIn 10000 32 (.agg #[.int .i64 a, .int .i64 b]) (.agg #[.int .i64 a', .int .i64 b'])).run Try.prog w = .ok (a == a' && b == b') w := by
  obtain ⟨i, hi⟩ : ∃ i, Try.prog.info? 3 = some i := by
    have : (Try.prog.info? 3).map (·.size) = some 1 := by kernel_rfl
    cases h : Try.prog.info? 3 with
    | none => simp [h] at this
    | some j => exact ⟨j, rfl⟩
  rw [show (10000 : Nat) = 9999 + 1 from rfl, run_equalIn_array w 9999 _ _ Try.underlying32 hi, cellsOf3]
  exact eqItems2 9998 a b a' b' w
set_option maxRecDepth 100000 in
set_option maxHeartbeats 3200000 in
theorem same_any (A A2 : Option Addr) (n c c2 : Nat) (r : List (Int × Int)) (w : World) (h : RefIs w A n c r) (h2 : RefIs w A2 n c2 r) (hm : n ≤ 1000) :
    Calls Try.prog 14 #[.slice A n c, .slice A2 n c2] w fun e w' => e = .returned (.bool true) ∧ Below w.heap.size w w' := by
  have H1 := Lib.hid h
  have H2 := Lib.hid h2
  have HN := Lib.hid h.1
  clear h h2
  go_enter Try.func14, Try.ntmps14
  go_wp2_with fail
  go_loopg [5] (n + 1) (fun gk s5 wr => ∃ i : Nat, s5 = .int .i64 i ∧ gk + i = n + 1 ∧ i ≤ n ∧ Hid (Below w.heap.size w wr))
  case atStart => exact ⟨0, rfl, by omega, by omega, Below.refl _ _⟩
  case round =>
    obtain ⟨i, rfl, hgi, hin, HI⟩ := hrel
    by_cases hlt : i < n
    · have hil : i < r.length := by have := HN.out; omega
      rcases H1.out.shape with ⟨_, _, h0, _⟩ | ⟨g, o, rfl⟩
      · omega
      · rcases H2.out.shape with ⟨_, _, h0, _⟩ | ⟨g2, o2, rfl⟩
        · omega
        · obtain ⟨y0, y1⟩ := (H1.out.later HI.out).at_ i hil
          obtain ⟨z0, z1⟩ := (H2.out.later HI.out).at_ i hil
          obtain ⟨ab, hab⟩ : ∃ ab, r[i] = ab := ⟨_, rfl⟩
          rw [hab] at y0 y1 z0 z1
          obtain ⟨a, b⟩ := ab
          simp only at y0 y1 z0 z1
          have b3 : (0 : Int) ≤ (i : Int) := Int.natCast_nonneg i
          have b4 : (i : Int) < (n : Int) := Int.ofNat_lt.2 hlt
          clear hab
          have e0 := fun k => eq32 a b a b (wr.drewN k)
          simp only [BEq.rfl, Bool.and_self] at e0
          go_upto_region 6 with fail
          go_quiet (fail)
          clear e0
          have HJ2 := Lib.hid (below_draws HI.out nq)
          go_wp2_with fail
          go_roundg (gk - 1)
          case rel => exact ⟨i + 1, by go_num, by omega, by omega, HJ2.out⟩
          case measure => omega
    · obtain rfl : i = n := by omega
      go_wp2_with fail
      go_ret
      exact ⟨rfl, HI.out⟩
def leP (p q : Int × Int) : Prop := p.1 < q.1 ∨ (p.1 = q.1 ∧ p.2 ≤ q.2)
theorem leP_trans {p q s : Int × Int} (h : leP p q) (h2 : leP q s) : leP p s := by unfold leP at *; omega
theorem leP_antisymm {p q : Int × Int} (h : leP p q) (h2 : leP q p) : p = q := by
  unfold leP at *
  exact Prod.ext (by omega) (by omega)
theorem leP_pr {x y : It} (h : leI x y) : leP (pr x) (pr y) := by
  rw [leI_iff] at h
  unfold leP pr
  simp only
  omega
theorem uniq : ∀ {l1 l2 : List (Int × Int)}, l1.Perm l2 → l1.Pairwise leP → l2.Pairwise leP → l1 = l2
  | [], l2, h, _, _ => (List.nil_perm.1 h).symm
  | a :: t, [], h, _, _ => absurd (List.perm_nil.1 h) (by simp)
  | a :: t, b :: t2, h, h1, h2 => by
    have ha : a ∈ b :: t2 := h.mem_iff.1 (by simp)
    have hb : b ∈ a :: t := h.mem_iff.2 (by simp)
    rw [List.pairwise_cons] at h1 h2
    have hab : a = b := by
      rcases List.mem_cons.1 ha with e | e
      · exact e
      · rcases List.mem_cons.1 hb with e2 | e2
        · exact e2.symm
        · exact leP_antisymm (h1.1 b e2) (h2.1 a e)
    subst hab
    rw [uniq (List.Perm.cons_inv h) h1.2 h2.2]
/-- The same pairs, and the document's in order. -/
def Says (l : List It) (r : List (Int × Int)) : Prop := (l.map pr).Perm r ∧ r.Pairwise leP
theorem Says.nil : Says [] [] := ⟨.refl _, .nil⟩
theorem Says.len {l : List It} {r : List (Int × Int)} (h : Says l r) : l.length = r.length := by
  have := h.1.length_eq
  simpa using this
theorem Says.add {l l' : List It} {r : List (Int × Int)} {a id sq : Int} {i : Nat} (h : Says l r) (hp : l'.Perm (l ++ [⟨a, id, sq⟩])) (hi : PutAt a id r i) : Says l' (r.take i ++ [(a, id)] ++ r.drop i) := by
  refine ⟨?_, ?_⟩
  · have h1 : (l'.map pr).Perm ((l ++ [(⟨a, id, sq⟩ : It)]).map pr) := hp.map pr
    rw [List.map_append] at h1
    refine h1.trans ?_
    refine (h.1.append_right _).trans ?_
    have h2 : (r ++ [(a, id)]).Perm (r.take i ++ r.drop i ++ [(a, id)]) := by rw [List.take_append_drop]
    refine h2.trans ?_
    rw [List.append_assoc, List.append_assoc]
    exact List.Perm.append_left _ List.perm_append_comm
  · have hr := h.2
    rw [← List.take_append_drop i r, List.pairwise_append] at hr
    obtain ⟨h1, h2, h3⟩ := hr
    have hdrop : ∀ q ∈ r.drop i, leP (a, id) q := by
      intro q hq
      cases hd : r.drop i with
      | nil => rw [hd] at hq; cases hq
      | cons p t =>
        rw [hd] at hq h2
        have hlt : i < r.length := by
          rcases Nat.lt_or_ge i r.length with h | h
          · exact h
          · rw [List.drop_eq_nil_of_le h] at hd; cases hd
        have hpi : r[i]? = some p := by
          rw [List.drop_eq_getElem_cons hlt] at hd
          injection hd with e _
          rw [List.getElem?_eq_getElem hlt, e]
        have hna := hi.2 p hpi
        have hap : leP (a, id) p := by
          unfold aheadP at hna
          unfold leP
          simp only
          omega
        rw [List.pairwise_cons] at h2
        rcases List.mem_cons.1 hq with e | e
        · rw [e]; exact hap
        · exact leP_trans hap (h2.1 q e)
    have htake : ∀ p ∈ r.take i, leP p (a, id) := by
      intro p hp
      have := hi.1 p hp
      unfold aheadP at this
      unfold leP
      simp only
      omega
    rw [List.append_assoc, List.pairwise_append]
    refine ⟨h1, ?_, ?_⟩
    · rw [List.singleton_append, List.pairwise_cons]
      exact ⟨hdrop, h2⟩
    · intro p hp q hq
      rw [List.singleton_append, List.mem_cons] at hq
      rcases hq with e | e
      · rw [e]; exact htake p hp
      · exact h3 p hp q e
theorem Says.head {l : List It} {p : Int × Int} {t : List (Int × Int)} (h : Says l (p :: t)) (hh : IsHeap l) : pr (gx l 0) = p := by
  have hl := h.len
  obtain ⟨h1, h2⟩ := heap_head hh (by rw [hl]; simp)
  have m1 : pr (gx l 0) ∈ p :: t := h.1.mem_iff.1 (List.mem_map_of_mem h1)
  have m2 : p ∈ l.map pr := h.1.mem_iff.2 (by simp)
  obtain ⟨y, hy, rfl⟩ := List.mem_map.1 m2
  have hs := h.2
  rw [List.pairwise_cons] at hs
  rcases List.mem_cons.1 m1 with e | e
  · exact e
  · exact leP_antisymm (leP_pr (h2 y hy)) (hs.1 _ e)
theorem Says.pop {l l' : List It} {p : Int × Int} {t : List (Int × Int)} (h : Says l (p :: t)) (hh : IsHeap l) (hp : (l' ++ [gx l 0]).Perm l) : Says l' t := by
  have h1 := (hp.map pr).trans h.1
  rw [List.map_append] at h1
  have h2 : (pr (gx l 0) :: l'.map pr).Perm (p :: t) := by
    refine List.Perm.trans ?_ h1
    exact (List.perm_append_comm (l₁ := [pr (gx l 0)]) (l₂ := l'.map pr))
  rw [h.head hh] at h2
  exact ⟨List.Perm.cons_inv h2, (List.pairwise_cons.1 h.2).2⟩
theorem keep_map (id : Int) (l : List It) : (keepL id l).map pr = keepP id (l.map pr) := by
  unfold keepL keepP
  rw [List.filter_map]
  rfl
theorem Says.remove {l l' : List It} {r : List (Int × Int)} (id : Int) (h : Says l r) (hp : l'.Perm (keepL id l)) : Says l' (keepP id r) ∧ (keepL id l).length = (keepP id r).length := by
  have h1 : (keepP id (l.map pr)).Perm (keepP id r) := h.1.filter _
  refine ⟨⟨(hp.map pr).trans (by rw [keep_map]; exact h1), h.2.filter _⟩, ?_⟩
  have := h1.length_eq
  rw [← keep_map, List.length_map] at this
  exact this
theorem Says.all {l dn : List It} {r : List (Int × Int)} (h : Says l r) (hp : dn.Perm l) (hs : dn.Pairwise leI) : dn.map pr = r := by
  refine uniq ((hp.map pr).trans h.1) ?_ h.2
  rw [List.pairwise_map]
  exact hs.imp (fun h => leP_pr h)
end Go.Proofs.Ythcfgchlaagfkaa
