/-
  The walks of harrierref32.seg, is, hunt.is, Newest of both, kept, last. No condition beyond what may be.
-/
import Derived.Test.YtikceomnkkpljaaAdds
namespace Go.Proofs.Ytikceomnkkpljaa
open Go.ChangeShapes Go.WideShapes Go.ChangeAt Go.RowKit
set_option linter.unusedVariables false
set_option linter.unusedSimpArgs false

theorem seg_any (n d a : Int) (w : World) (hn : 0 ≤ n ∧ n ≤ 65535) (hd : 0 ≤ d ∧ d ≤ 255) (ha : 0 ≤ a ∧ a ≤ 4294967295) :
    Calls Try.prog 26 #[.int .i64 n, .int .i64 d, .int .u32 a] w fun e w' => e = .returned (.agg (adrV n d a)) ∧ Below w.heap.size w w' := by
  have K0 : Hid (Blk (w.alloc (.cells zeroA 34)) w.heap.size 34 zeroA) := Blk.new _ _ _
  have HM := Lib.hid (refMake_any n d a (w.alloc (.cells zeroA 34)) hn hd ha)
  have HB0 : Hid (Below w.heap.size w (w.alloc (.cells zeroA 34))) := (Below.refl _ _).alloc (Nat.le_refl _) _
  go_enter Try.func26, Try.ntmps26
  go_wp2_with fail
  refine HM.out.mono ?_; rintro e w1 ⟨rfl, h1⟩
  have H1 := Lib.hid h1
  have K1 : Hid (Blk w1 w.heap.size 34 zeroA) := K0.out.below h1 K0.out.lt
  have HB1 : Hid (Below w.heap.size w w1) := HB0.out.trans (h1.mono HB0.out.size)
  clear h1 HM
  obtain ⟨cs, hce⟩ : ∃ cs, adrV n d a = cs := ⟨_, rfl⟩
  have hi34 : Hid ((Try.prog.info? 34).map (·.size) = some cs.size) := by unfold Hid; rw [← hce]; exact size34
  have hold : Hid (zeroA.size = cs.size) := by unfold Hid; rw [← hce]; rfl
  have hall : Hid (cs.all (·.oneCell') = true) := by unfold Hid; rw [← hce]; unfold adrV; simpa using u8s_one
  have KZ : Hid (Blk (w1.alloc (.cells zeroA 34)) w1.heap.size 34 zeroA) := Blk.new _ _ _
  have KR : Hid (Blk ((w1.alloc (.cells zeroA 34)).setRow w1.heap.size cs) w1.heap.size 34 cs) := setRow_heap _ _ zeroA cs 34 (0, 0) KZ.out
  have KO : Hid (Blk ((w1.alloc (.cells zeroA 34)).setRow w1.heap.size cs) w.heap.size 34 zeroA) := (setRow_other _ _ _ _ (Nat.ne_of_lt K1.out.lt)).trans (K1.out.more _)
  have HB2 : Hid (Below w.heap.size w ((w1.alloc (.cells zeroA 34)).setRow w1.heap.size cs)) := below_setRow (HB1.out.alloc HB1.out.size _) HB1.out.size _
  rw [hce]
  have HCE := Lib.hid hce
  clear hce
  go_wp2_with (first
    | (refine wpList_store_row rfl 34 _ _ rfl w1.heap.size cs rfl rfl 34 zeroA KZ.out hi34.out hold.out hall.out ?_)
    | (refine wpList_load_row rfl 34 _ rfl w1.heap.size rfl 34 cs (0, 0) _ KR.out Try.underlying34 rfl hi34.out ?_)
    | (refine wpList_store_row rfl 34 _ _ rfl w.heap.size cs rfl rfl 34 zeroA KO.out hi34.out hold.out hall.out ?_)
    | fail)
  refine bodyPost_ret (results_cell_row rfl _ _ w.heap.size 34 cs _ _ rfl (setRow_heap _ _ zeroA cs 34 (0, 0) KO.out) Try.underlying34 rfl hi34.out) rfl ?_
  exact ⟨by rw [← HCE.out], below_setRow HB2.out (Nat.le_refl _) _⟩

def isN (n : Int) : Bool := decide (1 ≤ n ∧ n ≤ 65535)
theorem isN_ok {n : Int} (h : isN n = true) : 1 ≤ n ∧ n ≤ 65535 := by simpa [isN] using h
theorem is_any (n : Int) (w : World) : Calls Try.prog 19 #[.int .i64 n] w fun e w' => e = .returned (.bool (isN n)) ∧ w = w' := by
  by_cases h1 : 1 ≤ n
  · by_cases h2 : n ≤ 65535
    · have t1 : decide (1 ≤ n) = true := by simpa using h1
      have t2 : decide (n ≤ 65535) = true := by simpa using h2
      have hf : isN n = true := by simp [isN, h1, h2]
      rw [hf]
      go_enter Try.func19, Try.ntmps19
      go_wp2
      go_ret
      exact ⟨rfl, rfl⟩
    · have t1 : decide (1 ≤ n) = true := by simpa using h1
      have t2 : decide (n ≤ 65535) = false := by simpa using h2
      have hf : isN n = false := by simp [isN, h1, h2]
      rw [hf]
      go_enter Try.func19, Try.ntmps19
      go_wp2
      go_ret
      exact ⟨rfl, rfl⟩
  · have t1 : decide (1 ≤ n) = false := by simpa using h1
    have hf : isN n = false := by simp [isN]; omega
    rw [hf]
    go_enter Try.func19, Try.ntmps19
    go_wp2
    go_ret
    exact ⟨rfl, rfl⟩
theorem refIs_any (n : Int) (w : World) : Calls Try.prog 20 #[.int .i64 n] w fun e w' => e = .returned (.bool (isN n)) ∧ w = w' := by
  by_cases h1 : 0 < n
  · by_cases h2 : n < 65536
    · have t1 : decide (0 < n) = true := by simpa using h1
      have t2 : decide (n < 65536) = true := by simpa using h2
      have hf : isN n = true := by simp [isN]; omega
      rw [hf]
      go_enter Try.func20, Try.ntmps20
      go_wp2
      go_ret
      exact ⟨rfl, rfl⟩
    · have t1 : decide (0 < n) = true := by simpa using h1
      have t2 : decide (n < 65536) = false := by simpa using h2
      have hf : isN n = false := by simp [isN]; omega
      rw [hf]
      go_enter Try.func20, Try.ntmps20
      go_wp2
      go_ret
      exact ⟨rfl, rfl⟩
  · have t1 : decide (0 < n) = false := by simpa using h1
    have hf : isN n = false := by simp [isN]; omega
    rw [hf]
    go_enter Try.func20, Try.ntmps20
    go_wp2
    go_ret
    exact ⟨rfl, rfl⟩
/-- Pairs that lie somewhere. -/
def PRow (w : World) (A : Option Addr) (ps : List (Int × Int)) : Prop :=
  0 < ps.length → ∃ g o, A = some ⟨g, o, none⟩ ∧ g < w.heap.size ∧ ∀ (i : Nat) (h : i < ps.length), w.cell? ⟨g, o + i * 2, none⟩ = some (.int .i64 (ps[i]).1) ∧ w.cell? ⟨g, o + i * 2 + 1, none⟩ = some (.int .i64 (ps[i]).2)
theorem PRow.later {w v : World} {A : Option Addr} {ps : List (Int × Int)} (h : PRow w A ps) (hb : Below w.heap.size w v) : PRow v A ps := fun hn => by
  obtain ⟨g, o, rfl, hg, hc⟩ := h hn
  exact ⟨g, o, rfl, Nat.lt_of_lt_of_le hg hb.size, fun i hi => ⟨(hb.cell (p := ⟨g, _, none⟩) hg).trans (hc i hi).1, (hb.cell (p := ⟨g, _, none⟩) hg).trans (hc i hi).2⟩⟩
def newest (ps : List (Int × Int)) : Int × Int :=
  match ps.getLast? with
  | none => (0, 0)
  | some p => if isN p.1 = true then (if isN p.2 = true then p else (p.1, 0)) else (0, 0)
theorem newest_snoc (qs : List (Int × Int)) (p : Int × Int) : newest (qs ++ [p]) = if isN p.1 = true then (if isN p.2 = true then p else (p.1, 0)) else (0, 0) := by simp [newest]
theorem snoc_of {α : Type} (l : List α) (h : 0 < l.length) : ∃ q p, l = q ++ [p] := ⟨l.dropLast, l.getLast (List.length_pos_iff.1 h), (List.dropLast_concat_getLast _).symm⟩
theorem last_cells {w : World} {A : Option Addr} {qs : List (Int × Int)} {p : Int × Int} (h : PRow w A (qs ++ [p])) : ∃ g o, A = some ⟨g, o, none⟩ ∧ g < w.heap.size ∧ w.cell? ⟨g, o + qs.length * 2, none⟩ = some (.int .i64 p.1) ∧ w.cell? ⟨g, o + qs.length * 2 + 1, none⟩ = some (.int .i64 p.2) := by
  obtain ⟨g, o, rfl, hg, hc⟩ := h (by simp)
  have := hc qs.length (by simp)
  simp at this
  exact ⟨g, o, rfl, hg, this⟩
theorem newest_any (A : Option Addr) (n c : Nat) (ps : List (Int × Int)) (w : World) (h : PRow w A ps) (hn : ps.length = n) (hm : n ≤ 1000000) :
    Calls Try.prog 7 #[.slice A n c] w fun e w' => e = .returned (.tuple #[.int .i64 (newest ps).1, .int .i64 (newest ps).2]) ∧ Below w.heap.size w w' := by
  by_cases h0 : n = 0
  · subst h0
    obtain rfl : ps = [] := List.eq_nil_of_length_eq_zero hn
    go_enter Try.func7, Try.ntmps7
    go_wp2
    go_returns
    exact ⟨rfl, Below.refl _ _⟩
  · obtain ⟨qs, p, rfl⟩ := snoc_of ps (by omega)
    obtain ⟨m, hq⟩ : ∃ m, qs.length = m := ⟨_, rfl⟩
    have hnm : n = m + 1 := by simp at hn; omega
    obtain ⟨g, o, rfl, hg, x0, x1⟩ := last_cells h
    rw [hq] at x0 x1
    rw [newest_snoc]
    obtain ⟨a, b⟩ := p
    simp only at x0 x1 ⊢
    subst hnm
    have t0 : (((m + 1 : Nat) : Int) == 0) = false := by simp; omega
    have e1 : wrap64 (((m + 1 : Nat) : Int) - 1) = (m : Int) := by rw [IntWalk.wrap64_in _ (by omega)]; omega
    have b1 : (0 : Int) ≤ (m : Int) := Int.natCast_nonneg m
    have b2 : (m : Int) < ((m + 1 : Nat) : Int) := by omega
    have HB : Hid (Below w.heap.size w (w.alloc (.cells #[.int .i64 a, .int .i64 b] 42))) := (Below.refl _ _).alloc (Nat.le_refl _) _
    clear h hn h0 hq
    cases ha : isN a with
    | false =>
      have HA := Lib.hid ha
      rw [if_neg (by decide)]
      clear ha
      go_enter Try.func7, Try.ntmps7
      go_wp2_with (go_at_call 19; refine (is_any a _).mono ?_; rintro e w' ⟨rfl, rfl⟩; rw [HA.out])
      go_returns
      exact ⟨rfl, HB.out⟩
    | true =>
      have HA := Lib.hid ha
      rw [if_pos rfl]
      clear ha
      cases hb : isN b with
      | false =>
        have HB2 := Lib.hid hb
        rw [if_neg (by decide)]
        clear hb
        go_enter Try.func7, Try.ntmps7
        go_wp2_with fail
        refine (is_any a _).mono ?_; rintro e w' ⟨rfl, rfl⟩; rw [HA.out]
        go_wp2_with fail
        refine (is_any b _).mono ?_; rintro e w' ⟨rfl, rfl⟩; rw [HB2.out]
        go_wp2_with fail
        go_returns
        exact ⟨rfl, HB.out⟩
      | true =>
        have HB2 := Lib.hid hb
        rw [if_pos rfl]
        clear hb
        go_enter Try.func7, Try.ntmps7
        go_wp2_with fail
        refine (is_any a _).mono ?_; rintro e w' ⟨rfl, rfl⟩; rw [HA.out]
        go_wp2_with fail
        refine (is_any b _).mono ?_; rintro e w' ⟨rfl, rfl⟩; rw [HB2.out]
        go_wp2_with fail
        go_quiet (fail)
        go_wp2
        go_returns
        exact ⟨rfl, below_draws HB.out _⟩
theorem refNewest_any (A : Option Addr) (n c : Nat) (ps : List (Int × Int)) (w : World) (h : PRow w A ps) (hn : ps.length = n) (hm : n ≤ 1000000) :
    Calls Try.prog 8 #[.slice A n c] w fun e w' => e = .returned (.tuple #[.int .i64 (newest ps).1, .int .i64 (newest ps).2]) ∧ Below w.heap.size w w' := by
  by_cases h0 : n = 0
  · subst h0
    obtain rfl : ps = [] := List.eq_nil_of_length_eq_zero hn
    go_enter Try.func8, Try.ntmps8
    go_wp2
    go_returns
    exact ⟨rfl, Below.refl _ _⟩
  · obtain ⟨qs, p, rfl⟩ := snoc_of ps (by omega)
    obtain ⟨m, hq⟩ : ∃ m, qs.length = m := ⟨_, rfl⟩
    have hnm : n = m + 1 := by simp at hn; omega
    obtain ⟨g, o, rfl, hg, x0, x1⟩ := last_cells h
    rw [hq] at x0 x1
    rw [newest_snoc]
    obtain ⟨a, b⟩ := p
    simp only at x0 x1 ⊢
    subst hnm
    have t0 : (((m + 1 : Nat) : Int) == 0) = false := by simp; omega
    have e1 : wrap64 (((m + 1 : Nat) : Int) - 1) = (m : Int) := by rw [IntWalk.wrap64_in _ (by omega)]; omega
    have b1 : (0 : Int) ≤ (m : Int) := Int.natCast_nonneg m
    have b2 : (m : Int) < ((m + 1 : Nat) : Int) := by omega
    clear h hn h0 hq
    cases ha : isN a with
    | false =>
      have HA := Lib.hid ha
      rw [if_neg (by decide)]
      clear ha
      go_enter Try.func8, Try.ntmps8
      go_wp2_with (go_at_call 20; refine (refIs_any a _).mono ?_; rintro e w' ⟨rfl, rfl⟩; rw [HA.out])
      go_returns
      exact ⟨rfl, Below.refl _ _⟩
    | true =>
      have HA := Lib.hid ha
      rw [if_pos rfl]
      clear ha
      cases hb : isN b with
      | false =>
        have HB2 := Lib.hid hb
        rw [if_neg (by decide)]
        clear hb
        go_enter Try.func8, Try.ntmps8
        go_wp2_with fail
        refine (refIs_any a _).mono ?_; rintro e w' ⟨rfl, rfl⟩; rw [HA.out]
        go_wp2_with fail
        refine (refIs_any b _).mono ?_; rintro e w' ⟨rfl, rfl⟩; rw [HB2.out]
        go_wp2_with fail
        go_returns
        exact ⟨rfl, Below.refl _ _⟩
      | true =>
        have HB2 := Lib.hid hb
        rw [if_pos rfl]
        clear hb
        go_enter Try.func8, Try.ntmps8
        go_wp2_with fail
        refine (refIs_any a _).mono ?_; rintro e w' ⟨rfl, rfl⟩; rw [HA.out]
        go_wp2_with fail
        refine (refIs_any b _).mono ?_; rintro e w' ⟨rfl, rfl⟩; rw [HB2.out]
        go_wp2_with fail
        go_quiet (fail)
        go_wp2
        go_returns
        exact ⟨rfl, below_draws (Below.refl _ _) _⟩
def lastL (ps : List (Int × Int)) : List (Int × Int) := ps.drop (ps.length - 4)
theorem PRow.drop {w : World} {g o : Nat} {ps : List (Int × Int)} (h : PRow w (some ⟨g, o, none⟩) ps) (k : Nat) (hk : 0 < ps.length) : PRow w (some ⟨g, o + k * 2, none⟩) (ps.drop k) := fun _ => by
  obtain ⟨g', o', he, hg, hc⟩ := h hk
  injection he with he
  injection he with e1 e2
  subst e1 e2
  refine ⟨g, _, rfl, hg, fun i hi => ?_⟩
  have hi' : k + i < ps.length := by simp at hi; omega
  have := hc (k + i) hi'
  rw [show o + (k + i) * 2 = o + k * 2 + i * 2 by omega] at this
  simpa using this
def KeptPost (w : World) (ps : List (Int × Int)) (e : Ending) (w' : World) : Prop := ∃ A' n' c', e = .returned (.slice A' n' c') ∧ (lastL ps).length = n' ∧ n' ≤ c' ∧ c' ≤ 9223372036854775807 ∧ PRow w A' (lastL ps) ∧ w = w'
theorem kept_any (A : Option Addr) (n c : Nat) (ps : List (Int × Int)) (w : World) (h : PRow w A ps) (hn : ps.length = n) (hm : n ≤ 1000000) (hc : n ≤ c) (hc2 : c ≤ 9223372036854775807) :
    Calls Try.prog 21 #[.slice A n c] w (KeptPost w ps) := by
  by_cases h4 : n < 4
  · have hl : lastL ps = ps := by unfold lastL; rw [show ps.length - 4 = 0 by omega]; rfl
    have e1 : wrap64 ((n : Int) - 4) = (n : Int) - 4 := IntWalk.wrap64_in _ (by omega)
    have e2 : (n : Int) - 4 < 0 := by omega
    have HH := Lib.hid h
    have HL := Lib.hid hl
    clear h hl
    go_enter Try.func21, Try.ntmps21
    go_wp2_with fail
    all_goals
      go_ret
      refine ⟨A, n, c, rfl, ?_, hc, hc2, ?_, rfl⟩
      · rw [HL.out]; exact hn
      · rw [HL.out]; exact HH.out
  · obtain ⟨k, rfl⟩ : ∃ k, n = k + 4 := ⟨n - 4, by omega⟩
    have e1 : wrap64 (((k + 4 : Nat) : Int) - 4) = (k : Int) := by rw [IntWalk.wrap64_in _ (by omega)]; omega
    have e2 : ¬ (k : Int) < 0 := by omega
    have e3 : (0 : Int) ≤ (k : Int) := by omega
    have e4 : (k : Int) ≤ ((k + 4 : Nat) : Int) := by omega
    have HH := Lib.hid h
    clear h
    go_enter Try.func21, Try.ntmps21
    go_wp2_with fail
    all_goals
      go_ret
      have hl : lastL ps = ps.drop k := by unfold lastL; rw [show ps.length - 4 = k by omega]
      obtain ⟨g, o, rfl, _⟩ := HH.out (by omega)
      refine ⟨some ⟨g, o + k * 2, none⟩, 4, c - k, ?_, ?_, by omega, by omega, ?_, rfl⟩
      · show Ending.returned (Value.slice (some ((⟨g, o, none⟩ : Addr).add (k * 2))) 4 (c - k)) = _
        rw [Addr.add_mid]
      · rw [hl]; simp; omega
      · rw [hl]; exact HH.out.drop k (by omega)
theorem last_any (A : Option Addr) (n c : Nat) (ps : List (Int × Int)) (w : World) (h : PRow w A ps) (hn : ps.length = n) (hm : n ≤ 1000000) (hc : n ≤ c) (hc2 : c ≤ 9223372036854775807) :
    Calls Try.prog 24 #[.slice A n c] w (KeptPost w ps) := by
  by_cases h4 : n ≤ 4
  · have hl : lastL ps = ps := by unfold lastL; rw [show ps.length - 4 = 0 by omega]; rfl
    have e1 : wrap64 ((n : Int) - 4) = (n : Int) - 4 := IntWalk.wrap64_in _ (by omega)
    have e2 : decide ((4 : Int) < (n : Int)) = false := by simp; omega
    have HH := Lib.hid h
    have HL := Lib.hid hl
    clear h hl
    go_enter Try.func24, Try.ntmps24
    go_wp2_with fail
    all_goals
      go_ret
      refine ⟨A, n, c, rfl, ?_, hc, hc2, ?_, rfl⟩
      · rw [HL.out]; exact hn
      · rw [HL.out]; exact HH.out
  · obtain ⟨k, rfl⟩ : ∃ k, n = k + 4 := ⟨n - 4, by omega⟩
    have e5 : decide ((4 : Int) < ((k + 4 : Nat) : Int)) = true := by simp; omega
    have e1 : wrap64 (((k + 4 : Nat) : Int) - 4) = (k : Int) := by rw [IntWalk.wrap64_in _ (by omega)]; omega
    have e2 : ¬ (k : Int) < 0 := by omega
    have e3 : (0 : Int) ≤ (k : Int) := by omega
    have e4 : (k : Int) ≤ ((k + 4 : Nat) : Int) := by omega
    have HH := Lib.hid h
    clear h
    go_enter Try.func24, Try.ntmps24
    go_wp2_with fail
    all_goals
      go_ret
      have hl : lastL ps = ps.drop k := by unfold lastL; rw [show ps.length - 4 = k by omega]
      obtain ⟨g, o, rfl, _⟩ := HH.out (by omega)
      refine ⟨some ⟨g, o + k * 2, none⟩, 4, c - k, ?_, ?_, by omega, by omega, ?_, rfl⟩
      · show Ending.returned (Value.slice (some ((⟨g, o, none⟩ : Addr).add (k * 2))) 4 (c - k)) = _
        rw [Addr.add_mid]
      · rw [hl]; simp; omega
      · rw [hl]; exact HH.out.drop k (by omega)
end Go.Proofs.Ytikceomnkkpljaa
