/-
  Bytes as words. No condition beyond what a slice of bytes is.
-/
import Derived.Test.YtgpdenhgbipopaaRounds
namespace Go.Proofs.Ytgpdenhgbipopaa
open Go.ChangeShapes Go.WideShapes Go.ChangeAt Go.RowKit
set_option linter.unusedVariables false

/-- Bytes as a number, the first one lowest. -/
def wd : List Int → Int
  | [] => 0
  | x :: t => x + 256 * wd t
def Bytes (l : List Int) : Prop := ∀ x ∈ l, 0 ≤ x ∧ x ≤ 255
theorem wd_nonneg {l : List Int} (h : Bytes l) : 0 ≤ wd l := by
  induction l with
  | nil => simp [wd]
  | cons x t ih =>
    have h1 := h x (by simp)
    have h2 := ih (fun y hy => h y (by simp [hy]))
    simp only [wd]; omega
theorem wd_lt {l : List Int} (h : Bytes l) : wd l < 256 ^ l.length := by
  induction l with
  | nil => simp [wd]
  | cons x t ih =>
    have h1 := h x (by simp)
    have h2 := ih (fun y hy => h y (by simp [hy]))
    simp only [wd, List.length_cons, Int.pow_succ]; omega
theorem wd_snoc (l : List Int) (x : Int) : wd (l ++ [x]) = wd l + x * 256 ^ l.length := by
  induction l with
  | nil => simp [wd]
  | cons y t ih =>
    simp only [List.cons_append, wd, ih, List.length_cons, Int.pow_succ, Int.mul_add]
    rw [Int.add_assoc, ← Int.mul_assoc, Int.mul_comm 256 x, Int.mul_assoc, Int.mul_comm 256, Int.mul_comm 256 (256 ^ t.length)]
theorem wd_zeros (l : List Int) (n : Nat) : wd (l ++ List.replicate n 0) = wd l := by
  induction l with
  | nil =>
    induction n with
    | zero => rfl
    | succ n ih => simp only [List.nil_append] at ih; simp [List.replicate_succ, wd, ih]
  | cons x t ih => simp only [List.cons_append, wd, ih]

/-- A slice of bytes. -/
def BRow (w : World) (A : Option Addr) (n : Nat) (bs : List Int) : Prop :=
  bs.length = n ∧ Bytes bs ∧ (0 < n → ∃ g o, A = some ⟨g, o, none⟩ ∧ g < w.heap.size ∧ ∀ i, i < n → w.cell? ⟨g, o + i, none⟩ = some (.int .u8 (bs.getD i 0)))
theorem BRow.later {w v : World} {A : Option Addr} {n : Nat} {bs : List Int} (h : BRow w A n bs) (hb : Below w.heap.size w v) : BRow v A n bs := by
  refine ⟨h.1, h.2.1, fun hn => ?_⟩
  obtain ⟨g, o, rfl, hg, hc⟩ := h.2.2 hn
  exact ⟨g, o, rfl, Nat.lt_of_lt_of_le hg hb.size, fun i hi => (hb.cell (p := ⟨g, _, none⟩) hg).trans (hc i hi)⟩
theorem BRow.kept {w v : World} {A : Option Addr} {n B : Nat} {bs : List Int} (h : BRow w A n bs) (hb : Below B w v) (hB : ∀ g o, A = some ⟨g, o, none⟩ → g < B) : BRow v A n bs := by
  refine ⟨h.1, h.2.1, fun hn => ?_⟩
  obtain ⟨g, o, rfl, hg, hc⟩ := h.2.2 hn
  exact ⟨g, o, rfl, Nat.lt_of_lt_of_le hg hb.size, fun i hi => (hb.cell (p := ⟨g, _, none⟩) (hB _ _ rfl)).trans (hc i hi)⟩
theorem BRow.head {w : World} {A : Option Addr} {n m : Nat} {bs : List Int} (h : BRow w A n bs) (hm : m ≤ n) : BRow w A m (bs.take m) := by
  refine ⟨by rw [List.length_take, h.1]; omega, fun x hx => h.2.1 x (List.mem_of_mem_take hx), fun hn => ?_⟩
  obtain ⟨g, o, rfl, hg, hc⟩ := h.2.2 (by omega)
  refine ⟨g, o, rfl, hg, fun i hi => ?_⟩
  rw [hc i (by omega), List.getD_eq_getElem?_getD, List.getD_eq_getElem?_getD, List.getElem?_take, if_pos hi]
theorem bRow_of {w : World} {a : Option Addr} {len cap : Nat} {zs : List Int} (h : IsRow .u8 w a len cap zs) : BRow w a len (zs.take len) := by
  obtain ⟨h1, h2, h3⟩ := h.len_le
  refine ⟨by rw [List.length_take]; omega, fun x hx => wf_u8 (h.wf x (List.mem_of_mem_take hx)), fun hn => ?_⟩
  obtain ⟨g, o, rfl, hg, hc⟩ := h.at_ hn
  refine ⟨g, o, rfl, hg, fun i hi => ?_⟩
  rw [hc i (by omega), List.getD_eq_getElem?_getD, List.getD_eq_getElem?_getD, List.getElem?_take, if_pos hi]

theorem or_high (a b : Int) (k : Nat) (hk : k < 8) (ha : 0 ≤ a) (ha2 : a < 256 ^ k) (hb : 0 ≤ b ∧ b ≤ 255) : bits .or .u64 a (IntKind.u64.wrap (b * 2 ^ (8 * k))) = a + b * 256 ^ k := by
  have e : (2 : Int) ^ (8 * k) = 256 ^ k := by rw [Int.pow_mul]; rfl
  have hp : (256 : Int) ^ k ≤ 256 ^ 7 := by
    rcases (show k = 0 ∨ k = 1 ∨ k = 2 ∨ k = 3 ∨ k = 4 ∨ k = 5 ∨ k = 6 ∨ k = 7 by omega) with rfl | rfl | rfl | rfl | rfl | rfl | rfl | rfl <;> decide
  have hq : (0 : Int) < 256 ^ k := Int.pow_pos (by decide)
  have hm : b * 256 ^ k ≤ 255 * 256 ^ k := Int.mul_le_mul_of_nonneg_right hb.2 (by omega)
  have hm0 : 0 ≤ b * 256 ^ k := Int.mul_nonneg hb.1 (by omega)
  have h7 : (256 : Int) ^ 7 = 72057594037927936 := by decide
  rw [e, IntWalk.u64_in _ (by omega)]
  obtain ⟨x, rfl⟩ := Int.eq_ofNat_of_zero_le ha
  obtain ⟨y, rfl⟩ := Int.eq_ofNat_of_zero_le hb.1
  have c : ((256 : Int) ^ k) = ((256 ^ k : Nat) : Int) := by simp
  rw [c, ← Int.natCast_mul]
  rw [c] at ha2 hp hm hm0 hq
  have hx : x < 256 ^ k := by omega
  rw [u64_or_nat x (y * 256 ^ k) (by omega) (by rw [← Int.natCast_mul] at hm; omega), Nat.or_comm]
  have hj : y * 256 ^ k ||| x = y * 256 ^ k + x := by
    have e2 : (256 : Nat) ^ k = 2 ^ (8 * k) := by rw [Nat.pow_mul]
    refine nat_join (8 * k) _ _ ?_ ?_
    · rw [e2]; exact Nat.mul_mod_left _ _
    · rw [← e2]; exact hx
  rw [hj]; omega

theorem take_step (bs : List Int) (k : Nat) (h : k < bs.length) : bs.take (k + 1) = bs.take k ++ [bs.getD k 0] := by
  rw [List.take_succ_eq_append_getElem h, List.getD_eq_getElem?_getD, List.getElem?_eq_getElem h]; rfl

theorem word_any (A : Option Addr) (n c : Nat) (bs : List Int) (w : World) (h : BRow w A n bs) (hn : n ≤ 8) :
    Calls Try.prog 27 #[.slice A n c] w fun e w' => e = .returned (.int .u64 (wd bs)) ∧ w = w' := by
  have HH := Lib.hid h
  clear h
  go_enter Try.func27, Try.ntmps27
  go_wp2_with fail
  go_loop [3, 7] (fun v i => ∃ k : Nat, i = .int .i64 k ∧ k ≤ n ∧ Hid (v = .int .u64 (wd (bs.take k)))) (fun _ i => n - (intOf i).toNat)
  case atStart => exact ⟨0, rfl, by omega, by unfold Hid; simp [wd]⟩
  case round =>
    obtain ⟨k, rfl, hk, HI⟩ := hrel
    by_cases hlt : k < n
    · obtain ⟨g, o, rfl, hg, hc⟩ := HH.out.2.2 (by omega)
      have hcx := hc k hlt
      clear hc
      have hb := HH.out.2.1
      have hl := HH.out.1
      have hby : 0 ≤ bs.getD k 0 ∧ bs.getD k 0 ≤ 255 := by
        rw [List.getD_eq_getElem?_getD, List.getElem?_eq_getElem (by omega)]; exact hb _ (List.getElem_mem _)
      have hts := take_step bs k (by omega)
      have HB' : Bytes (bs.take k) := fun x hx => hb x (List.mem_of_mem_take hx)
      have hlen : (bs.take k).length = k := by rw [List.length_take]; omega
      have q1 := wd_nonneg HB'
      have q2 := wd_lt HB'
      have HS : Hid (bits .or .u64 (wd (bs.take k)) (IntKind.u64.wrap (bs.getD k 0 * 2 ^ (8 * k))) = wd (bs.take (k + 1))) := by
        unfold Hid
        rw [hts, wd_snoc, hlen]
        exact or_high _ _ k (by omega) q1 (by rw [hlen] at q2; exact q2) hby
      generalize bs.getD k 0 = z at *
      have hv := HI.out
      subst hv
      generalize wd (bs.take k) = v at *
      clear hts hb hl HB' hlen q2
      go_wp2
      go_round
      case rel => exact ⟨k + 1, by go_num, by omega, by unfold Hid; rw [← HS.out]⟩
      case measure => simp [intOf]; omega
    · obtain rfl : k = n := by omega
      have hv := HI.out
      subst hv
      go_wp2
      go_ret
      exact ⟨ret_int (by rw [List.take_of_length_le (by rw [HH.out.1]; omega)]), rfl⟩
end Go.Proofs.Ytgpdenhgbipopaa
