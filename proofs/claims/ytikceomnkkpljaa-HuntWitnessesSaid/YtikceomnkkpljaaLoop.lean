/-
  What a loop over each needs: the iterator's contract in the law's form; what add leaves. No condition.
-/
import Derived.Test.YtikceomnkkpljaaIter
namespace Go.Proofs.Ytikceomnkkpljaa
open Go.ChangeShapes Go.WideShapes Go.ChangeAt Go.RowKit Go.Shelf
set_option linter.unusedVariables false
set_option linter.unusedSimpArgs false

theorem each_stops (n0 b1 g o m c : Nat) (A : Option Addr) (ps : List (Int × Int)) (w : World) (hn0 : 1 ≤ n0) (hb1 : b1 < w.heap.size) (hA : 0 < m → A = some ⟨g, o, none⟩ ∧ g < w.heap.size ∧ PCells w g o ps) (hm : ps.length = m) (hm2 : m ≤ 1000) (hw : ∀ p ∈ ps, wfi p.1 ∧ wfi p.2)
    (cb : w.cell? ⟨b1, 0, none⟩ = some (.slice A m c)) :
    SeqStopsK Fence.wide n0 Try.prog 32 #[.pointer (some ⟨b1, 0, none⟩)] (fun x : Node => #[Value.int .i64 x.1]) (KpG g) (fun ys => vals ys = nodesL (flatN ps)) (fun _ => True) (m * 2) w := fun l J Jx W hW hJ _ hY h0 =>
  each_in Fence.wide n0 trivial trivial rfl (fun x W => callsIn_wide.2 (is_any x W)) hn0 l b1 g o m c A ps J Jx W hJ hY
    (fun h => ⟨(hA h).1, Nat.lt_of_lt_of_le (hA h).2.1 hW.size, (hA h).2.2.kept (hW.block g (hA h).2.1)⟩) hm hm2 hw ((hW.cell (p := ⟨b1, 0, none⟩) hb1).trans cb) h0
theorem KpG.put {g k : Nat} (hg : g < k) (W : World) (l : Nat) (o o' : Obj) (hl : k ≤ l) (hh : W.heap[l]? = some o) (hc : o.isCells = false) (hw : o.isWalk = false) : KpG g W (W.putObj l o') := by
  refine ⟨⟨by simp [World.putObj], fun j u hj hu => ?_⟩, World.putObj_heap_other (by omega)⟩
  by_cases e : j = l
  · subst e; rw [hh] at hj; injection hj with hj; subst hj; rw [hw] at hu; cases hu
  · exact (World.putObj_heap_other e).trans hj
theorem cells_kept {W W' : World} {k : Nat} {cs : Array Value} {t : TypeId} {fr : Nat × Nat} {row : Option Nat} (h : W.heap[k]? = some (.cells cs t fr)) (hg : W.grownBy W' row) (hr : ∀ r, row = some r → ∃ o : Obj, W.heap[r]? = some o ∧ o.isCells = false) : W'.heap[k]? = some (.cells cs t fr) :=
  (hg.block k (by rcases Nat.lt_or_ge k W.heap.size with h1 | h1; exact h1; rw [Array.getElem?_eq_none h1] at h; cases h) (fun e => by
    obtain ⟨o, ho, hc⟩ := hr k e.symm
    rw [h] at ho
    injection ho with ho
    subst ho
    cases hc)).trans h
theorem ListIs.kept {W W' : World} {X B : Nat} {a : Int} {v : Value} {l : List Seg} {row : Option Nat} (h : ListIs W X B a v l) (hg : W.grownBy W' row) (hr : ∀ r, row = some r → ∃ o : Obj, W.heap[r]? = some o ∧ o.isCells = false) : ListIs W' X B a v l :=
  ⟨cells_kept h.blk hg hr, ⟨h.row.1, h.row.2.imp id fun ⟨g, cap, cur, h1, h2, h3, h4⟩ => ⟨g, cap, cur, h1, h2, cells_kept h3 hg hr, h4⟩⟩, h.lt, Nat.le_trans h.le hg.size⟩
theorem ListIs.others {W W' : World} {X B : Nat} {a : Int} {v : Value} {l : List Seg} (h : ListIs W X B a v l) (hc : Chg (OwnL X v) W W') : KeepsOthers W W' := by
  refine ⟨hc.size, fun k o hk ho => ?_⟩
  have hlt : k < W.heap.size := by
    rcases Nat.lt_or_ge k W.heap.size with h1 | h1
    · exact h1
    · rw [Array.getElem?_eq_none h1] at hk; cases hk
  refine (hc.block k hlt (fun e => ?_)).trans hk
  rcases e with rfl | e
  · have := h.blk
    unfold Blk at this
    rw [hk] at this
    injection this with this
    subst this
    cases ho
  · obtain ⟨cs, hcs⟩ := h.row.type e
    unfold Blk at hcs
    rw [hk] at hcs
    injection hcs with hcs
    subst hcs
    cases ho
theorem walks_of_others {W W' : World} (h : KeepsOthers W W') : KeepsWalks W W' := ⟨h.size, fun k o hk ho => h.same k o hk (Obj.not_cells_of_walk ho)⟩
theorem ListIs.kpG {W W' : World} {X B g : Nat} {a : Int} {v : Value} {l : List Seg} (h : ListIs W X B a v l) (hc : Chg (OwnL X v) W W') (hg : g < X) (hgl : g < W.heap.size) : KpG g W W' :=
  ⟨walks_of_others (h.others hc), hc.block g hgl (fun e => by
    rcases e with rfl | e
    · omega
    · have := (h.row.lt g e).1
      have := h.lt
      omega)⟩
theorem ListIs.below {W W' : World} {X B N : Nat} {a : Int} {v : Value} {l : List Seg} {w : World} (h : ListIs W X B a v l) (hc : Chg (OwnL X v) W W') (hb : Below N w W) (hN : N ≤ X) (hs : N ≤ W.heap.size) : Below N w W' :=
  below_chg hb hc hs (fun k hk e => by
    rcases e with rfl | e
    · omega
    · have := (h.row.lt k e).1
      have := h.lt
      omega)
def segsOf (d a : Int) (l : List Node) : List Seg := l.map (fun x => (x.1, d, a))
theorem segsOf_snoc (d a : Int) (l : List Node) (x : Node) : segsOf d a (l ++ [x]) = segsOf d a l ++ [(x.1, d, a)] := by simp [segsOf]
theorem segsOf_len (d a : Int) (l : List Node) : (segsOf d a l).length = l.length := by simp [segsOf]
def segL (d a : Int) (l : List Int) : List Seg := l.map (fun x => (x, d, a))
theorem segsOf_vals (d a : Int) (l : List Node) : segsOf d a l = segL d a (vals l) := by simp [segsOf, segL, vals]
end Go.Proofs.Ytikceomnkkpljaa
