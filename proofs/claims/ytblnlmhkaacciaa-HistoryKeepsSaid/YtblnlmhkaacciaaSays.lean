/-
  Histories by what they say; the walk of lives. No condition.
-/
import Derived.Test.YtblnlmhkaacciaaPairs
namespace Go.Proofs.Ytblnlmhkaacciaa
open Go.ChangeShapes Go.WideShapes Go.ChangeAt Go.RowKit
set_option linter.unusedVariables false
set_option linter.unusedSimpArgs false

abbrev Say := Int × Int × Int × List Int
def shutS (now : Int) (x : Say) : Say := (x.1, x.2.1, now, x.2.2.2)
def dropS (L : List Say) : List Say := if 4 ≤ L.length then L.drop 1 else L
def closeS (now : Int) (L : List Say) : List Say := L.dropLast ++ (L.getLast?.map (shutS now)).toList
def pushS (L : List Say) (last now : Int) (tab : List Int) : List Say := closeS now (dropS L) ++ [(last + 1, now, -1, tab)]
def mayS (L : List Say) (now : Int) : Int :=
  if now < 0 then 2 else if 0 < L.length ∧ now < (L.getLast?.map (fun x => x.2.1)).getD 0 then 2 else if 4 ≤ L.length ∧ wrap64 (now - (L.head?.map (fun x => x.2.2.1)).getD 0) < 16 then 11 else 0
theorem mayS_of (vs : List Ver) (now : Int) : mayL vs now = mayS (sayV vs) now := by
  unfold mayL mayS lastFrm headUnt sayV
  rw [List.length_map, List.getLast?_map, List.head?_map, Option.map_map, Option.map_map]
  rfl
theorem dropS_of (vs : List Ver) : sayV (dropOld vs) = dropS (sayV vs) := by
  unfold dropOld dropS sayV
  rw [List.length_map]
  split
  · rw [List.map_drop]
  · rfl
theorem closeS_of (now : Int) (vs : List Ver) : sayV (closeL now vs) = closeS now (sayV vs) := by
  unfold closeL closeS sayV
  rw [List.map_append, List.map_dropLast, List.getLast?_map]
  cases vs.getLast? <;> rfl
theorem pushS_of (vs : List Ver) (last now : Int) (p : Ver) (h1 : p.num = last + 1) (h2 : p.frm = now) (h3 : p.unt = -1) : sayV (closeL now (dropOld vs) ++ [p]) = pushS (sayV vs) last now p.tab := by
  unfold pushS
  rw [← dropS_of, ← closeS_of]
  simp [sayV, Ver.says, h1, h2, h3]
/-- The history at H says L. -/
def Hs (w : World) (H B : Nat) (L : List Say) (last : Int) : Prop := ∃ v vs, HistIs w H B v vs last ∧ sayV vs = L ∧ vs.length ≤ 4
section
variable {w w' : World} {H B : Nat} {L : List Say} {last : Int}
theorem Hs.later (h : Hs w H B L last) (hb : Below w.heap.size w w') : Hs w' H B L last := by
  obtain ⟨v, vs, h1, h2, h3⟩ := h
  exact ⟨v, vs, h1.later hb, h2, h3⟩
theorem Hs.tells (h : Hs w H B L last) : Tells w (some ⟨H, 0, none⟩) L := by
  obtain ⟨v, vs, h1, h2, h3⟩ := h
  exact Or.inr ⟨H, B, v, vs, last, rfl, h1, by omega, h2.symm⟩
theorem Hs.len (h : Hs w H B L last) : L.length ≤ 4 := by
  obtain ⟨v, vs, h1, rfl, h3⟩ := h
  simpa [sayV] using h3
theorem Hs.bounds (h : Hs w H B L last) : H < B ∧ B ≤ w.heap.size := by
  obtain ⟨v, vs, h1, _⟩ := h
  exact ⟨h1.lt, h1.le⟩
/-- What a call of this history may turn. -/
def Mine (H B k : Nat) : Prop := k = H ∨ B ≤ k
theorem chg_mine {S : Nat → Prop} (h : Chg S w w') (hs : ∀ k, S k → Mine H B k) : Chg (Mine H B) w w' := h.mono (fun k _ e => hs k e)
theorem own_mine {v : Value} {vs : List Ver} (h : HistIs w H B v vs last) : ∀ k, OwnH H v k → Mine H B k := by
  rintro k (e | e)
  · exact Or.inl e
  · exact Or.inr (h.row.lt k e).1
theorem free_hs (now : Int) (h : Hs w H B L last) : Calls Try.prog 11 #[.pointer (some ⟨H, 0, none⟩), .int .i64 now] w fun e w' => e = .returned (.bool (mayS L now == 0)) ∧ Below w.heap.size w w' := by
  obtain ⟨v, vs, h1, rfl, h3⟩ := h
  rw [← mayS_of]
  exact free_any now h1 (by omega)
theorem push_busy (t : Value) (now : Int) (h : Hs w H B L last) (hm : ¬ mayS L now = 0) : Calls Try.prog 7 #[.pointer (some ⟨H, 0, none⟩), .int .i64 now, t] w fun e w' => e = .returned (.int .i64 (mayS L now)) ∧ Below w.heap.size w w' := by
  obtain ⟨v, vs, h1, rfl, h3⟩ := h
  rw [← mayS_of] at hm ⊢
  exact push_no t now h1 (by omega) hm
theorem push_hs (A : Option Addr) (n c : Nat) (tab : List Int) (now : Int) (h : Hs w H B L last) (hm : mayS L now = 0) (hr : NRow w A tab) (hfar : 0 < n → ∀ a, A = some a → a.block < H ∨ ∃ cs, Blk w a.block 3 cs) (hn : tab.length = n) (hx : n * 8 ≤ 140737488355328) (hla : 0 ≤ last ∧ last ≤ 1000000) :
    Calls Try.prog 7 #[.pointer (some ⟨H, 0, none⟩), .int .i64 now, .slice A n c] w fun e w' => e = .returned (.int .i64 0) ∧ Hs w' H B (pushS L last now tab) (last + 1) ∧ Chg (Mine H B) w w' := by
  obtain ⟨v, vs, h1, rfl, h3⟩ := h
  rw [← mayS_of] at hm
  refine (push_any A n c tab now h1 h3 hm hr ?_ hn hx hla).mono ?_
  · rintro hp a ha (e | e)
    · rcases hfar hp a ha with hlt | ⟨cs, hb⟩
      · omega
      · exact (hb.differ h1.blk (by decide)) e
    · rcases hfar hp a ha with hlt | ⟨cs, hb⟩
      · have := (h1.row.lt _ e).1
        have := h1.lt
        omega
      · obtain ⟨ds, hd⟩ := own_blk h1.row e
        exact (hb.differ hd (by decide)) rfl
  · rintro e w2 ⟨v', p, rfl, g1, g2, g3, g4, g5, g6, _⟩
    refine ⟨rfl, ⟨v', _, g1, ?_, ?_⟩, chg_mine g6 (own_mine h1)⟩
    · rw [pushS_of vs last now p g2 g3 g4, g5]
    · rw [List.length_append, closeL_len]
      have := dropOld_len h3
      simp
      omega
end
theorem mine_below {w0 w w' : World} {H B : Nat} (hb : Below w0.heap.size w0 w) (hc : Chg (Mine H B) w w') (h1 : w0.heap.size ≤ H) (h2 : H < B) : Below w0.heap.size w0 w' :=
  below_chg hb hc hb.size (fun k hk e => by
    rcases e with e | e <;> omega)
def livesL : Nat → List Say
  | 0 => []
  | i + 1 => pushS (livesL i) (i : Int) (i : Int) [(i : Int) + 1]
theorem livesL_may (i : Nat) (h : i < 4) : mayS (livesL i) (i : Int) = 0 := by
  rcases (show i = 0 ∨ i = 1 ∨ i = 2 ∨ i = 3 by omega) with rfl | rfl | rfl | rfl <;> decide
theorem lives_4 : livesL 4 = [(1, 0, 1, [1]), (2, 1, 2, [2]), (3, 2, 3, [3]), (4, 3, -1, [4])] := by decide
theorem lives_16 : mayS (livesL 4) 16 = 11 := by
  rw [lives_4]
  unfold mayS
  rw [if_neg (by decide), if_neg (by decide), if_pos]
  refine ⟨by decide, ?_⟩
  show wrap64 (16 - 1) < 16
  rw [IntWalk.wrap64_in _ (by omega)]; decide
theorem lives_17 : mayS (livesL 4) 17 = 0 := by
  rw [lives_4]
  unfold mayS
  rw [if_neg (by decide), if_neg (by decide), if_neg]
  rintro ⟨_, h⟩
  have h2 : wrap64 (17 - 1) < 16 := h
  rw [IntWalk.wrap64_in _ (by omega)] at h2
  exact absurd h2 (by decide)
theorem lives_num : lastNum (livesL 4) = 4 := by decide
theorem lives_len : (livesL 4).length = 4 := by decide
theorem nrow_one (w : World) (z : Int) : NRow (w.alloc (.cells #[.int .i64 z] 3)) (some ⟨w.heap.size, 0, none⟩) [z] := fun _ =>
  ⟨w.heap.size, 0, rfl, by simp, fun i hi => by
    obtain rfl : i = 0 := by simpa using hi
    exact ((Blk.new w 3 #[.int .i64 z]).cell 0).trans rfl⟩
set_option maxHeartbeats 1600000 in
theorem lives_any (w : World) : Calls Try.prog 10 #[] w fun e w' => e = .returned (.bool true) ∧ Below w.heap.size w w' := by
  go_enter Try.func10, Try.ntmps10
  go_wp2_with fail
  refine (new_any _).mono ?_; rintro e w1 ⟨H, rfl, h1, hN, hb1⟩
  have h0 : Hs w1 H w1.heap.size [] 0 := ⟨_, [], h1, rfl, by simp⟩
  obtain ⟨B, hB⟩ : ∃ B, w1.heap.size = B := ⟨_, rfl⟩
  rw [hB] at h0
  have HH0 := Lib.hid h0
  have HB1 := Lib.hid hb1
  clear h1 h0 hb1 hB
  go_wp2_with fail
  go_loopg [2] 5 (fun gk s2 wr => ∃ i : Nat, s2 = .int .i64 i ∧ gk + i = 5 ∧ i ≤ 4 ∧ Hid (Hs wr H B (livesL i) (i : Int) ∧ Below w.heap.size w wr))
  case atStart => exact ⟨0, rfl, by omega, by omega, HH0.out, HB1.out⟩
  case round =>
    obtain ⟨i, rfl, hgi, hi4, HI⟩ := hrel
    by_cases hlt : i < 4
    · have hm := livesL_may i hlt
      have hba : Below wr.heap.size wr (wr.alloc (.cells #[.int .i64 ((i : Int) + 1)] 3)) := (Below.refl _ _).alloc (Nat.le_refl _) _
      have HP := Lib.hid (push_hs (some ⟨wr.heap.size, 0, none⟩) 1 1 [(i : Int) + 1] (i : Int) (HI.out.1.later hba) hm (nrow_one wr _) (fun _ a ha => by cases ha; exact Or.inr ⟨_, Blk.new wr 3 _⟩) rfl (by omega) (by omega))
      have HBA := Lib.hid hba
      have hHB := HI.out.1.bounds.1
      clear hm hba
      go_wp2_with fail
      refine HP.out.mono ?_; rintro e w2 ⟨rfl, h2, c2⟩
      have HREL : Hid (Hs w2 H B (livesL (i + 1)) ((i + 1 : Nat) : Int) ∧ Below w.heap.size w w2) := by
        refine ⟨?_, mine_below (HI.out.2.trans (HBA.out.mono HI.out.2.size)) c2 hN hHB⟩
        rw [Int.natCast_add]
        exact h2
      clear h2 c2
      go_wp2_with fail
      go_roundg (gk - 1)
      case rel => exact ⟨i + 1, by go_num, by omega, by omega, HREL.out⟩
      case measure => omega
    · obtain rfl : i = 4 := by omega
      have HN := Lib.hid (newest_any _ _ wr HI.out.1.tells)
      have HB4 := HI.out.1.bounds
      go_wp2_with fail
      refine HN.out.mono ?_; rintro e w2 ⟨nu, fr, un, A, k, c, rfl, hnu, hb2⟩
      rw [lives_num] at hnu
      subst hnu
      obtain ⟨wa, hwa⟩ : ∃ wa, w2.alloc (.cells #[.int .i64 4, .int .i64 fr, .int .i64 un, .slice A k c] 32) = wa := ⟨_, rfl⟩
      have ba : Below wr.heap.size wr wa := by rw [← hwa]; exact hb2.alloc hb2.size _
      have KA : Blk wa w2.heap.size 32 #[.int .i64 4, .int .i64 fr, .int .i64 un, .slice A k c] := by rw [← hwa]; exact Blk.new w2 32 _
      have hsa : Hs wa H B (livesL 4) 4 := HI.out.1.later ba
      have HP := Lib.hid (push_busy (.slice none 0 0) 16 hsa (by rw [lives_16]; decide))
      rw [lives_16] at HP
      have HSA := Lib.hid hsa
      have HKA := Lib.hid KA
      have HBA : Hid (Below w.heap.size w wa) := HI.out.2.trans (ba.mono HI.out.2.size)
      have HWA := Lib.hid hwa
      clear hb2 ba KA hsa hwa
      go_wp2_with fail
      rw [HWA.out]
      go_wp2_with fail
      refine HP.out.mono ?_; rintro e w3 ⟨rfl, b3⟩
      have S3 := Lib.hid (HSA.out.later b3)
      have K3 := Lib.hid (HKA.out.below b3 HKA.out.lt)
      have B3 := Lib.hid (HBA.out.trans (b3.mono HBA.out.size))
      have F3 := Lib.hid (free_hs 16 S3.out)
      rw [lives_16] at F3
      clear b3
      go_wp2_with fail
      refine F3.out.mono ?_; rintro e w4 ⟨rfl, b4⟩
      have S4 := Lib.hid (S3.out.later b4)
      have K4 := Lib.hid (K3.out.below b4 K3.out.lt)
      have B4 := Lib.hid (B3.out.trans (b4.mono B3.out.size))
      have F4 := Lib.hid (free_hs 17 S4.out)
      rw [lives_17] at F4
      clear b4
      go_wp2_with fail
      refine F4.out.mono ?_; rintro e w5 ⟨rfl, b5⟩
      have S5 := Lib.hid (S4.out.later b5)
      have K5 := K4.out.below b5 K4.out.lt
      have x0 : w5.cell? ⟨w2.heap.size, 0, none⟩ = some (.int .i64 4) := K5.cell 0
      have B5 := Lib.hid (B4.out.trans (b5.mono B4.out.size))
      have A5 := Lib.hid (all_any _ _ w5 S5.out.tells)
      clear b5 K5
      go_wp2_with fail
      refine A5.out.mono ?_; rintro e w6 ⟨v6, qs, rfl, h6, hs6, hl6, b6⟩
      have hq : qs.length = 4 := by
        have := congrArg List.length hs6
        rw [lives_len] at this
        simpa [sayV] using this
      rw [hq] at h6
      obtain ⟨A6, c6, rfl⟩ := own_form h6 (by decide) h6.1
      have B6 := Lib.hid (B5.out.trans (b6.mono B5.out.size))
      clear h6 hs6 hl6 b6 hq
      go_wp2_with fail
      go_ret
      exact ⟨rfl, B6.out⟩
end Go.Proofs.Ytblnlmhkaacciaa
