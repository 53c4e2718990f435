/-
  Rows of addresses; the walk of the list's add, for what may be. No condition beyond that.
-/
import Derived.Test.YtikceomnkkpljaaRefMake
namespace Go.Proofs.Ytikceomnkkpljaa
open Go.ChangeShapes Go.WideShapes Go.ChangeAt Go.RowKit
set_option linter.unusedVariables false
set_option linter.unusedSimpArgs false

/-- A segment: the node, what it is to do, the number. -/
abbrev Seg := Int × Int × Int
def Seg.cells (s : Seg) : List Value := u8s (adrL s.1 s.2.1 s.2.2)
def Seg.ok (s : Seg) : Prop := (0 ≤ s.1 ∧ s.1 ≤ 65535) ∧ (0 ≤ s.2.1 ∧ s.2.1 ≤ 255) ∧ (0 ≤ s.2.2 ∧ s.2.2 ≤ 4294967295)
def flatA (l : List Seg) : List Value := l.flatMap Seg.cells
theorem Seg.len (s : Seg) : (Seg.cells s).length = 16 := rfl
theorem flatA_len (l : List Seg) : (flatA l).length = l.length * 16 := by
  induction l with
  | nil => rfl
  | cons p t ih => simp [flatA, Seg.len] at *; omega
theorem flatA_append (l m : List Seg) : flatA (l ++ m) = flatA l ++ flatA m := by simp [flatA]
theorem flatA_one {l : List Seg} : ∀ u ∈ flatA l, u.oneCell' = true := by
  intro u hu
  simp only [flatA, List.mem_flatMap] at hu
  obtain ⟨s, _, hu⟩ := hu
  exact u8s_one u hu
def OwnA (w : World) (B : Nat) (v : Value) (l : List Seg) : Prop := w.ownsRow B 34 16 v l.length (flatA l)
section
variable {w v : World} {B : Nat} {x : Value} {l : List Seg}
theorem OwnA.later (h : OwnA w B x l) (hb : Below w.heap.size w v) : OwnA v B x l :=
  ⟨h.1, h.2.imp id fun ⟨g, cap, cur, h1, h2, h3, h4⟩ => ⟨g, cap, cur, h1, h2, (hb.block g (lt_of_block h3)).trans h3, h4⟩⟩
theorem OwnA.form (h : OwnA w B x l) : ∃ A c, x = .slice A l.length c := by
  rcases h.2 with ⟨rfl, h0⟩ | ⟨g, cap, cur, rfl, _⟩
  · exact ⟨none, 0, by rw [h0]⟩
  · exact ⟨_, _, rfl⟩
theorem OwnA.more (h : OwnA w B x l) (o : Obj) : OwnA (w.alloc o) B x l := World.ownsRow.alloc h o
theorem OwnA.base {B' : Nat} (h : OwnA w B x l) (hb : B' ≤ B) : OwnA w B' x l :=
  ⟨h.1, h.2.imp id fun ⟨g, cap, cur, h1, h2, h3⟩ => ⟨g, cap, cur, h1, Nat.le_trans hb h2, h3⟩⟩
theorem OwnA.nil (w : World) (B : Nat) : OwnA w B (.slice none 0 0) [] := World.ownsRow_nil _ _ _ _
theorem OwnA.type (h : OwnA w B x l) {k : Nat} (hk : x.ownBlock = some k) : ∃ cs, Blk w k 34 cs := by
  rcases h.2 with ⟨rfl, _⟩ | ⟨g, cap, cur, rfl, _, hh, _⟩
  · simp [Value.ownBlock] at hk
  · obtain rfl : g = k := by simpa [Value.ownBlock] using hk
    exact ⟨cur, hh⟩
/-- The cells of the row. -/
theorem OwnA.row (h : OwnA w B x l) (hl : 0 < l.length) : ∃ g c, x = .slice (some ⟨g, 0, none⟩) l.length c ∧ l.length ≤ c ∧ B ≤ g ∧ g < w.heap.size ∧ ∀ j u, (flatA l)[j]? = some u → w.cell? ⟨g, j, none⟩ = some u := by
  rcases h.2 with ⟨_, h0⟩ | ⟨g, cap, cur, rfl, hg, hh, hcap, hmax, hsz, htk⟩
  · omega
  refine ⟨g, cap, rfl, hcap, hg, lt_of_block hh, fun j u hj => ?_⟩
  rw [cell_of_row w g j cur 34 (0, 0) hh]
  have hl2 : j < l.length * 16 := by
    have := (List.getElem?_eq_some_iff.1 hj).1
    rwa [flatA_len] at this
  rw [← htk, List.getElem?_take, if_pos (by omega)] at hj
  simpa using hj
end
theorem info34 : (Try.prog.info? 34).map (fun i => (i.zero, i.size, i.bytes)) = some (some (.agg zeroA), 16, 16) := by kernel_rfl
/-- The list at X: its number, the slice. -/
structure ListIs (w : World) (X B : Nat) (a : Int) (v : Value) (l : List Seg) : Prop where
  blk : Blk w X 47 #[.int .u32 a, v]
  row : OwnA w B v l
  lt : X < B
  le : B ≤ w.heap.size
def OwnL (X : Nat) (v : Value) (k : Nat) : Prop := k = X ∨ v.ownBlock = some k
theorem ListIs.later {w v : World} {X B : Nat} {a : Int} {x : Value} {l : List Seg} (h : ListIs w X B a x l) (hb : Below w.heap.size w v) : ListIs v X B a x l :=
  ⟨h.blk.below hb h.blk.lt, h.row.later hb, h.lt, Nat.le_trans h.le hb.size⟩
/-- Behind the append, ahead of the store. -/
theorem ListIs.grows {w w3 : World} {X B k : Nat} {a : Int} {v v' : Value} {l : List Seg} {s : Seg} (h : ListIs w X B a v l) (hown : w3.ownsRow B 34 16 v' k (flatA l ++ Seg.cells s)) (hk : k = l.length + 1) (hg : w.grownBy w3 v.ownBlock) :
    Blk w3 X 47 #[.int .u32 a, v] ∧ ListIs (w3.setCell ⟨X, 1, none⟩ v') X B a v' (l ++ [s]) ∧ Chg (OwnL X v) w (w3.setCell ⟨X, 1, none⟩ v') := by
  subst hk
  have hX : Blk w3 X 47 #[.int .u32 a, v] := (hg.block X h.blk.lt (fun e => by
    obtain ⟨cs, hc⟩ := h.row.type e.symm
    exact (hc.differ h.blk (by decide)) rfl)).trans h.blk
  have hlt := h.lt
  refine ⟨hX, ⟨hX.put 1 _ rfl, ?_, h.lt, by have := hg.size; have := h.le; simp [World.setCell]; omega⟩, ?_⟩
  · unfold OwnA
    rw [List.length_append, flatA_append]
    refine ⟨hown.1, hown.2.imp id fun ⟨g, cap, cur, h1, h2, h3, h4⟩ => ⟨g, cap, cur, h1, h2, Blk.away h3 (by show g ≠ X; omega) _, ?_⟩⟩
    simpa [flatA] using h4
  · exact Chg.put ((Chg.of_grown hg).mono (fun k _ e => Or.inr e.symm)) (by exact Or.inl (Or.inl rfl)) _
end Go.Proofs.Ytikceomnkkpljaa
