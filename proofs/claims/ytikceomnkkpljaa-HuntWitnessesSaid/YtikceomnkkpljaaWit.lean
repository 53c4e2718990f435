/-
  What a first segment's list says of its witnesses; two equal segments by value. No condition beyond what is named.
-/
import Derived.Test.YtikceomnkkpljaaSplit
import Derived.Test.YtikceomnkkpljaaSyns
namespace Go.Proofs.Ytikceomnkkpljaa
open Go.ChangeShapes Go.WideShapes Go.ChangeAt Go.RowKit
set_option linter.unusedVariables false
set_option linter.unusedSimpArgs false

theorem nodesL_nodup : ∀ (ns : List Int), (nodesL ns).Nodup := by
  refine rev_ind (by simp [nodesL]) (fun l n ih => ?_)
  rw [nodesL_snoc]
  unfold stepN
  split
  · rename_i h
    rw [List.nodup_append]
    refine ⟨ih, by simp, ?_⟩
    intro x hx y hy e
    simp at hy
    subst hy
    subst e
    exact h.2 hx
  · exact ih
theorem mem_flatN {ps : List (Int × Int)} {x : Int} : x ∈ flatN ps ↔ ∃ p ∈ ps, x = p.1 ∨ x = p.2 := by simp [flatN]
def wantDo (M n i : Nat) : Int := if i + 1 = n then 3 else if M ≤ i then 2 else 1
structure WitL (ps : List (Int × Int)) (a f s : Int) (M : Nat) (l : List Seg) : Prop where
  len : l.length = M + (if s = 0 then 1 else 2)
  few : l.length ≤ 8
  at_ : ∀ (i : Nat) (hi : i < l.length), l[i] = (l[i].1, wantDo M l.length i, a) ∧ (0 ≤ l[i].1 ∧ l[i].1 ≤ 65535) ∧ (i = M → l[i].1 = f) ∧ (i = M + 1 → l[i].1 = s)
  once : ∀ (k i : Nat) (hi : i < l.length) (hk : k < i), i < M → ¬ l[k].1 = l[i].1
  all : ∀ (i : Nat) (hi : i + 1 < ps.length) (x : Int), (x = ps[i].1 ∨ x = ps[i].2) → isN x = true → ∃ m, ∃ (hm : m < l.length), m < M ∧ l[m].1 = x
theorem wit_law (ps : List (Int × Int)) (a f s : Int) (h : newest ps = (f, s)) (hf : ¬ f = 0) (hl : ps.length ≤ 4) : ∃ M, WitL ps a f s M (synL ps a) := by
  obtain ⟨hF, hS⟩ := newest_ok h hf
  have rF := isN_ok hF
  have hL : lastL ps = ps := by unfold lastL; rw [show ps.length - 4 = 0 by omega]; rfl
  obtain ⟨N, hN⟩ : ∃ N, nodesL (flatN ps.dropLast) = N := ⟨_, rfl⟩
  have hsyn : synL ps a = segL 1 a N ++ (if s = 0 then [(f, 3, a)] else [(f, 2, a), (s, 3, a)]) := by
    unfold synL
    simp only [h, hL, hN]
    rw [if_neg hf]
  have hND : N.Nodup := hN ▸ nodesL_nodup _
  have hmem : ∀ x, x ∈ N ↔ x ∈ flatN ps.dropLast ∧ isN x = true := by rw [← hN]; exact mem_nodesL _
  have hfew := synL_few ps a
  rw [hsyn] at hfew ⊢
  have hlen : (segL 1 a N ++ (if s = 0 then [(f, 3, a)] else [(f, 2, a), (s, 3, a)])).length = N.length + (if s = 0 then 1 else 2) := by
    rw [List.length_append, segL_len]
    split <;> rfl
  have hlow : ∀ (i : Nat) (hi : i < N.length) (hi2 : i < (segL 1 a N ++ (if s = 0 then [(f, 3, a)] else [(f, 2, a), (s, 3, a)])).length), (segL 1 a N ++ (if s = 0 then [(f, 3, a)] else [(f, 2, a), (s, 3, a)]))[i] = (N[i], 1, a) := by
    intro i hi hi2
    rw [List.getElem_append_left (by rw [segL_len]; exact hi)]
    simp [segL]
  refine ⟨N.length, hlen, hfew, fun i hi => ?_, fun k i hi hk hM => ?_, fun i hi x hx hxN => ?_⟩
  · by_cases hiN : i < N.length
    · rw [hlow i hiN hi]
      have hr := isN_ok ((hmem N[i]).1 (List.getElem_mem hiN)).2
      have hd : wantDo N.length (segL 1 a N ++ (if s = 0 then [(f, 3, a)] else [(f, 2, a), (s, 3, a)])).length i = 1 := by
        unfold wantDo
        rw [hlen, if_neg (by split <;> omega), if_neg (by omega)]
      rw [hd]
      exact ⟨rfl, ⟨by omega, by omega⟩, fun e => by omega, fun e => by omega⟩
    · have hx : (segL 1 a N ++ (if s = 0 then [(f, 3, a)] else [(f, 2, a), (s, 3, a)]))[i] = (if s = 0 then [(f, 3, a)] else [(f, 2, a), (s, 3, a)])[i - N.length]'(by rw [hlen] at hi; split at hi <;> rename_i hs <;> simp [hs] <;> omega) := by
        rw [List.getElem_append_right (by rw [segL_len]; omega)]
        simp only [segL_len]
      rw [hx]
      have hdo : wantDo N.length (segL 1 a N ++ (if s = 0 then [(f, 3, a)] else [(f, 2, a), (s, 3, a)])).length i = if i + 1 = N.length + (if s = 0 then 1 else 2) then 3 else 2 := by
        unfold wantDo
        rw [hlen, if_pos (show N.length ≤ i by omega)]
      rw [hdo]
      rw [hlen] at hi
      by_cases hs : s = 0
      · subst hs
        simp at hi
        obtain rfl : i = N.length := by omega
        simp
        omega
      · have rS := isN_ok (hS hs)
        simp only [hs, if_false] at hi ⊢
        rcases (show i = N.length ∨ i = N.length + 1 by omega) with rfl | rfl
        · simp
          omega
        · simp
          omega
  · rw [hlow i hM hi, hlow k (by omega) (by omega)]
    intro e
    have := (List.nodup_iff_pairwise_ne.1 hND)
    exact (List.pairwise_iff_getElem.1 this k i (by omega) hM hk) e
  · have hm : x ∈ N := by
      refine (hmem x).2 ⟨mem_flatN.2 ⟨ps[i], ?_, hx⟩, hxN⟩
      rw [List.mem_iff_getElem]
      exact ⟨i, by simp; omega, by simp⟩
    obtain ⟨m, hmlt, hmx⟩ := List.mem_iff_getElem.1 hm
    refine ⟨m, by rw [hlen]; omega, hmlt, ?_⟩
    rw [hlow m hmlt (by rw [hlen]; omega)]
    exact hmx

theorem eq39 (n d a : Int) (w : World) : (Op.equalIn 10000 39 (.agg #[.int .i64 n, .int .i64 d, .int .u32 a]) (.agg #[.int .i64 n, .int .i64 d, .int .u32 a])).run Try.prog w = .ok true w := by
  have hS : Try.prog.underlying 39 = some (.struct (Try.prog.fieldsOf 39)) := by kernel_rfl
  rw [show (10000 : Nat) = 9999 + 1 from rfl, run_equalIn_agg w 9999 39 _ _ hS (by kernel_rfl)]
  simp only [Program.fieldsOf, Try.underlying39]
  have u3 := Try.underlying3
  have u37 := Try.underlying37
  go_simp
end Go.Proofs.Ytikceomnkkpljaa
