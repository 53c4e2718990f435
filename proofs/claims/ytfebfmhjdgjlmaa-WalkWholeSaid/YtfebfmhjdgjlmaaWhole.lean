/-
  The walk of WalkWhole. No condition beyond what a slice that came in is, and its reach.
-/
import Derived.Test.YtfebfmhjdgjlmaaLives
namespace Go.Proofs.Ytfebfmhjdgjlmaa
open Go.ChangeShapes Go.WideShapes Go.ChangeAt Go.RowKit
set_option linter.unusedVariables false

/-- Headers that lie one behind the other, from a place on to the end. -/
def Ch (B : Nat → Int) (L : Nat) : Nat → Int → List Hd → Prop
  | _, _, [] => False
  | a, k, [p] => p = (k, (a : Int), (L : Int) - a) ∧ extB k = false ∧ a ≤ L
  | a, k, p :: q :: t => p = (k, (a : Int), 8 * B (a + 1) + 8) ∧ extB k = true ∧ a + 2 ≤ L ∧ 8 * B (a + 1) + 8 ≤ (L : Int) - a ∧ Ch B L (a + (8 * B (a + 1) + 8).toNat) (B a) (q :: t)
theorem wk_ch (B : Nat → Int) (L f : Nat) : ∀ (k : Int) (a m : Nat), (∀ i, 0 ≤ B i) → a ≤ L → (wk B L f k a m).2 = 0 → Ch B L a k (wk B L f k a m).1 := by
  induction f with
  | zero => intro k a m _ _ h; simp [wk] at h
  | succ f ih =>
    intro k a m hB ha h
    simp only [wk] at h ⊢
    by_cases h1 : mayE k m ≠ 0
    · rw [if_pos h1] at h; exact absurd h h1
    · rw [if_neg h1] at h ⊢
      by_cases h2 : extB k = false
      · rw [if_pos h2]; exact ⟨rfl, h2, ha⟩
      · rw [if_neg h2] at h ⊢
        by_cases h3 : L < a + 2 ∨ (L : Int) - a < 8 * B (a + 1) + 8
        · rw [if_pos h3] at h; simp at h
        · rw [if_neg h3] at h ⊢
          have hb := hB (a + 1)
          have i1 := ih (B a) (a + (8 * B (a + 1) + 8).toNat) (m + 1) hB (by omega)
          by_cases h4 : (wk B L f (B a) (a + (8 * B (a + 1) + 8).toNat) (m + 1)).2 ≠ 0
          · rw [if_pos h4] at h; exact absurd h h4
          · rw [if_neg h4]
            have i2 := i1 (by simpa using h4)
            generalize wk B L f (B a) (a + (8 * B (a + 1) + 8).toNat) (m + 1) = r at *
            obtain ⟨l, e⟩ := r
            cases l with
            | nil => exact absurd i2 (by simp [Ch])
            | cons q t => exact ⟨rfl, by simpa using h2, by omega, by omega, i2⟩

theorem whole_bad (a : Option Addr) (len cap : Nat) (k at_ : Int) (w : World) (hl : len ≤ 140737488351232) (h : at_ < 0 ∨ (len : Int) < at_) :
    Calls Try.prog 4 #[.slice a len cap, .int .i64 k, .int .i64 at_] w fun e w' => e = .returned (.bool true) ∧ Below w.heap.size w w' := by
  have H := Lib.hid h
  clear h
  go_enter Try.func4, Try.ntmps4
  go_wp2_with (first
    | (go_at_call 6; refine (walk_bad a len cap k at_ _ hl H.out).mono ?_; rintro e w' ⟨rfl, rfl⟩)
    | (go_at_call 8; refine (lives_any _).mono ?_; rintro e w' ⟨rfl, hl⟩; have HL := Lib.hid hl; clear hl))
  go_ret
  exact ⟨rfl, HL.out⟩

theorem whole_err (a : Option Addr) (len cap : Nat) (zs : List Int) (k : Int) (at_ : Nat) (w : World) (hr : IsRow .u8 w a len cap zs) (ha : at_ ≤ len) (hl : len ≤ 140737488351232) (he : (wk (fun i => zs.getD i 0) len 9 k at_ 0).2 ≠ 0) :
    Calls Try.prog 4 #[.slice a len cap, .int .i64 k, .int .i64 at_] w fun e w' => e = .returned (.bool true) ∧ Below w.heap.size w w' := by
  have HP6 := Lib.hid (walk_any a len cap zs k at_ w hr ha hl)
  have h1 := wk_err (fun i => zs.getD i 0) len 9 k at_ 0 he
  generalize wk (fun i => zs.getD i 0) len 9 k at_ 0 = r at *
  obtain ⟨ps, er⟩ := r
  simp only at h1 he
  subst h1
  have he' : (er != 0) = true := by simpa using he
  clear hr he
  go_enter Try.func4, Try.ntmps4
  go_wp2_with fail
  refine HP6.out.mono ?_
  rintro e w1 ⟨A, c, rfl, hO, hB⟩
  have HB := Lib.hid hB
  clear hO hB HP6
  simp only [List.length_nil]
  go_wp2_with (go_at_call 8; refine (lives_any _).mono ?_; rintro e w' ⟨rfl, hl⟩; have HL := Lib.hid hl; clear hl)
  go_ret
  exact ⟨rfl, HB.out.trans (HL.out.mono HB.out.size)⟩

set_option maxRecDepth 100000 in
set_option maxHeartbeats 3200000 in
theorem whole_good (a : Option Addr) (len cap : Nat) (zs : List Int) (k0 : Int) (a0 : Nat) (w : World) (hr : IsRow .u8 w a len cap zs) (ha : a0 ≤ len) (hl : len ≤ 140737488351232) (he : (wk (fun i => zs.getD i 0) len 9 k0 a0 0).2 = 0) :
    Calls Try.prog 4 #[.slice a len cap, .int .i64 k0, .int .i64 a0] w fun e w' => e = .returned (.bool true) ∧ Below w.heap.size w w' := by
  have HR := Lib.hid hr
  have hlen := wk_len (fun i => zs.getD i 0) len 9 k0 a0 0
  have hpos := wk_some (fun i => zs.getD i 0) len 9 k0 a0 0 he
  have hch := wk_ch (fun i => zs.getD i 0) len 9 k0 a0 0 (fun i => (byte_of hr i).1) ha he
  have HP6 := Lib.hid (walk_any a len cap zs k0 a0 w hr ha hl)
  generalize wk (fun i => zs.getD i 0) len 9 k0 a0 0 = r at *
  obtain ⟨ps, er⟩ := r
  simp only at hlen hpos he hch
  subst he
  have HC := Lib.hid hch
  clear hr hch
  go_enter Try.func4, Try.ntmps4
  go_wp2_with fail
  refine HP6.out.mono ?_
  rintro e w1 ⟨A, c, rfl, hO, hB⟩
  have HR1 := Lib.hid (HdRow.of_own hO rfl)
  have HB1 := Lib.hid hB
  clear hO hB HP6
  simp only at HR1
  go_wp2_with fail
  go_loopw [1, 2, 9] (fun s1 s2 i wr => ∃ (j a1 : Nat) (k : Int), s1 = .int .i64 k ∧ s2 = .int .i64 a1 ∧ i = .int .i64 j ∧ j ≤ ps.length ∧ a1 ≤ len ∧ Hid (Below w1.heap.size w1 wr ∧ ((j < ps.length ∧ Ch (fun i => zs.getD i 0) len a1 k (ps.drop j)) ∨ (j = ps.length ∧ a1 = len)))) (fun _ _ i _ => ps.length - (intOf i).toNat)
  case atStart => exact ⟨0, a0, k0, rfl, rfl, rfl, by omega, ha, Below.refl _ _, Or.inl ⟨hpos, HC.out⟩⟩
  case round =>
    obtain ⟨j, a1, k, rfl, rfl, rfl, hj, ha1, HI⟩ := hrel
    clear HC
    by_cases hlt : j < ps.length
    · have hch : Ch (fun i => zs.getD i 0) len a1 k (ps.drop j) := by
        rcases HI.out.2 with h | h
        · exact h.2
        · omega
      obtain ⟨g, o, rfl, hg, hc⟩ := (HR1.out.later HI.out.1).2 (by omega)
      obtain ⟨c1, c2', c3⟩ := hc j hlt
      clear hc
      have hd : ps.drop j = ps.getD j (0, 0, 0) :: ps.drop (j + 1) := by
        rw [List.drop_eq_getElem_cons hlt, List.getD_eq_getElem?_getD, List.getElem?_eq_getElem hlt]; rfl
      rw [hd] at hch
      clear hd
      have hlr : (ps.drop (j + 1)).length = ps.length - (j + 1) := List.length_drop
      generalize ps.getD j (0, 0, 0) = p at *
      generalize hrest : ps.drop (j + 1) = rest at *
      cases rest with
      | nil =>
        obtain ⟨rfl, hx, hle⟩ := hch
        simp only [List.length_nil] at hlr
        have k1 : ¬ k = 0 ∧ ¬ k = 43 ∧ ¬ k = 60 := by simpa [extB, not_or] using hx
        obtain ⟨k2, k3, k4⟩ := k1
        have t2 : (k == 0) = false := by simpa using k2
        have t3 : (k == 43) = false := by simpa using k3
        have t4 : (k == 60) = false := by simpa using k4
        have t5 : decide ((j : Int) < (ps.length : Int) - 1) = false := by simp; omega
        have t6 : ((len : Int) - (a1 : Int)) ≥ 0 := by omega
        have HLR : Hid (0 = ps.length - (j + 1)) := hlr
        clear hx k2 k3 k4 hlr hrest
        go_wp2
        go_roundw
        case rel => exact ⟨j + 1, len, k, rfl, congrArg (Value.int .i64) (by omega), by go_num, by omega, Nat.le_refl _, HI.out.1.alloc HI.out.1.size _, Or.inr ⟨by have := HLR.out; omega, rfl⟩⟩
        case measure => simp [intOf]; omega
      | cons q t =>
        obtain ⟨rfl, hx, hle, hle2, hch2⟩ := hch
        simp only [List.length_cons] at hlr
        obtain ⟨z1, e1⟩ : ∃ z, zs.getD (a1 + 1) 0 = z := ⟨_, rfl⟩
        obtain ⟨z0, e0⟩ : ∃ z, zs.getD a1 0 = z := ⟨_, rfl⟩
        have hz := byte_of HR.out (a1 + 1)
        have hy := byte_of HR.out a1
        obtain ⟨g2, o2, rfl, hb2, hcell⟩ := HR.out.at_ (by omega)
        obtain ⟨hlc, hcm, hzl⟩ := HR.out.len_le
        have HB1' := Lib.hid (HB1.out.trans (HI.out.1.mono HB1.out.size))
        have x0 := (HB1'.out.cell (p := ⟨g2, o2 + a1, none⟩) hb2).trans (hcell a1 (by omega))
        have gz : g2 < wr.heap.size := Nat.lt_of_lt_of_le hb2 HB1'.out.size
        simp only at c1 c2' c3 hle2 hch2
        rw [e1] at hz c3 hle2 hch2
        rw [e0] at hy x0 hch2
        clear hcell hzl
        have kw : k = 0 ∨ k = 43 ∨ k = 60 := by simpa [extB] using hx
        have t5 : decide ((j : Int) < (ps.length : Int) - 1) = true := by simp; omega
        have HX : Hid (Ch (fun i => zs.getD i 0) len (a1 + (8 * z1 + 8).toNat) z0 (ps.drop (j + 1))) := by rw [hrest]; exact hch2
        have HLR : Hid (t.length + 1 = ps.length - (j + 1)) := hlr
        clear hx hlr hrest hch2 e0 e1
        rcases kw with rfl | rfl | rfl
        all_goals
          go_wp2
          go_roundw
          case rel => exact ⟨j + 1, a1 + (8 * z1 + 8).toNat, z0, rfl, congrArg (Value.int .i64) (by omega), by go_num, by omega, by omega, HI.out.1.alloc HI.out.1.size _, Or.inl ⟨by have := HLR.out; omega, HX.out⟩⟩
          case measure => simp [intOf]; omega
    · have ha2 : a1 = len := by
        rcases HI.out.2 with h | h
        · omega
        · exact h.2
      subst ha2
      go_wp2_with (go_at_call 8; refine (lives_any _).mono ?_; rintro e w' ⟨rfl, hl⟩; have HL := Lib.hid hl; clear hl)
      go_ret
      exact ⟨rfl, (HB1.out.trans (HI.out.1.mono HB1.out.size)).trans (HL.out.mono (Nat.le_trans HB1.out.size HI.out.1.size))⟩

theorem walkWhole.walk (a : Option Addr) (len cap : Nat) (zs : List Int) (k at_ : Int) (w : World) (hr : IsRow .u8 w a len cap zs) (hl1 : len * 1 ≤ 140737488351232) (_ : (Lit.int .i64 k).wf = true) (_ : (Lit.int .i64 at_).wf = true) :
    Calls Try.prog 4 #[.slice a len cap, .int .i64 k, .int .i64 at_] w fun e w' => e = .returned (.bool true) ∧ Below w.heap.size w w' := by
  have hl : len ≤ 140737488351232 := by omega
  by_cases h : at_ < 0 ∨ (len : Int) < at_
  · exact whole_bad a len cap k at_ w hl h
  · obtain ⟨n, rfl⟩ := Int.eq_ofNat_of_zero_le (show 0 ≤ at_ by omega)
    by_cases he : (wk (fun i => zs.getD i 0) len 9 k n 0).2 = 0
    · exact whole_good a len cap zs k n w hr (by omega) hl he
    · exact whole_err a len cap zs k n w hr (by omega) hl he
end Go.Proofs.Ytfebfmhjdgjlmaa
