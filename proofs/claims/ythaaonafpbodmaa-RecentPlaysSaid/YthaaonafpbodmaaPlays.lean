/-
  The walk of RecentPlays. No condition beyond what a slice that came in is.
-/
import Derived.Test.YthaaonafpbodmaaLives
import Derived.Test.YthaaonafpbodmaaRowsIn
namespace Go.Proofs.Ythaaonafpbodmaa
open Go.ChangeShapes Go.WideShapes Go.ChangeAt Go.RowKit
set_option linter.unusedVariables false
set_option linter.unusedSimpArgs false

def anyZ (l : List Nat) (x : Int) : Bool := l.any (fun (j : Nat) => decide ((j : Int) = x))
theorem anyZ_there (l : List Nat) (x : Int) : anyZ l x = there l x := by
  unfold anyZ there
  rw [Bool.eq_iff_iff]
  simp only [List.any_eq_true, decide_eq_true_eq]
  constructor
  · rintro ⟨j, hj, rfl⟩; exact ⟨by omega, by simpa using hj⟩
  · rintro ⟨h0, hm⟩; exact ⟨_, hm, by omega⟩
theorem anyZ_snoc (p : List Nat) (b : Nat) (x : Int) : anyZ (p ++ [b]) x = (anyZ p x || decide ((b : Int) = x)) := by simp [anyZ]
theorem LS.len {w : World} {L R D U n : Nat} {l : List Nat} (h : LS w L R D U n l) : l.length ≤ n := by
  obtain ⟨up, dn, _, hr⟩ := h
  exact nodup_len n l hr.nodup hr.lt
theorem drop_same {w : World} {L R D U n : Nat} {l : List Nat} {x : Int} (h : LS w L R D U n l) : (if there l x = true then less l x.toNat else l) = lessZ l x ∧ decide ((lessZ l x).length < l.length) = there l x := by
  obtain ⟨up, dn, _, hr⟩ := h
  by_cases ht : there l x = true
  · have h2 : 0 ≤ x ∧ x.toNat ∈ l := by simpa [there] using ht
    have hx : lessZ l x = less l x.toNat := by rw [← lessZ_nat]; congr 1; omega
    rw [if_pos ht, hx]
    refine ⟨rfl, ?_⟩
    have := hr.less_len h2.2
    rw [ht]
    simp only [decide_eq_true_eq]
    omega
  · have ht' : there l x = false := by simpa using ht
    rw [if_neg ht, ht']
    have hx : lessZ l x = l := by
      unfold lessZ
      refine List.filter_eq_self.2 (fun j hj => ?_)
      simp only [decide_eq_true_eq]
      intro e
      apply ht
      unfold there
      simp only [decide_eq_true_eq]
      exact ⟨by omega, by rw [← e]; simpa using hj⟩
    rw [hx]
    exact ⟨rfl, by simp⟩
theorem touch_same {l : List Nat} {x : Int} {n : Nat} (h : 0 ≤ x ∧ x < n) : (if 0 ≤ x ∧ x < n then x.toNat :: less l x.toNat else l) = x.toNat :: less l x.toNat := if_pos h
theorem last_cell (l : List Nat) (z : Nat) (h : l.length = z + 1) : l.getD z 0 = l.getLastD 0 := by
  cases l with
  | nil => simp at h
  | cons a t =>
    rw [List.getD_eq_getElem?_getD]
    have : (a :: t)[z]? = (a :: t).getLast? := by rw [List.getLast?_eq_getElem?, h]; rfl
    rw [this, List.getLastD_eq_getLast?]

theorem plays_none (n : Int) (v : Value) (w : World) (h : n < 1 ∨ 256 < n) : Calls Try.prog 3 #[.int .i64 n, v] w fun e w' => e = .returned (.bool true) ∧ Below w.heap.size w w' := by
  have HN := Lib.hid (fun W => new_none n W h)
  rcases h with h | h
  · go_enter Try.func3, Try.ntmps3
    go_wp2_with (first
      | (go_at_call 5; refine (HN.out _).mono ?_; rintro e w' ⟨rfl, rfl⟩)
      | (go_at_call 6; refine (lives_any _).mono ?_; rintro e w1 ⟨rfl, h1⟩; have H1 := Lib.hid h1; clear h1))
    go_ret
    exact ⟨rfl, H1.out⟩
  · have h2 : decide (n < 1) = false := by simp; omega
    go_enter Try.func3, Try.ntmps3
    go_wp2_with (first
      | (go_at_call 5; refine (HN.out _).mono ?_; rintro e w' ⟨rfl, rfl⟩)
      | (go_at_call 6; refine (lives_any _).mono ?_; rintro e w1 ⟨rfl, h1⟩; have H1 := Lib.hid h1; clear h1))
    go_ret
    exact ⟨rfl, H1.out⟩

/-- What holds ahead of each round. -/
def RR (w : World) (L R D U n B : Nat) (l : List Nat) (v : Value) (wr : World) : Prop := LS wr L R D U n l ∧ OwnI wr B v l ∧ Below w.heap.size w wr ∧ B ≤ wr.heap.size
theorem RR.step {w wr w1 : World} {L R D U n B : Nat} {l l' : List Nat} {v : Value} (h : RR w L R D U n B l v wr) (hx : w.heap.size ≤ R ∧ w.heap.size ≤ D ∧ w.heap.size ≤ U ∧ R < B ∧ D < B ∧ U < B) (h1 : LS w1 L R D U n l') (hc : Chg (Own R D U) wr w1) :
    LS w1 L R D U n l' ∧ OwnI w1 B v l ∧ Below w.heap.size w w1 ∧ B ≤ w1.heap.size :=
  ⟨h1, h.2.1.chg hc (fun k hk e => by unfold Own at e; omega), below_chg h.2.2.1 hc h.2.2.1.size (fun k hk e => by unfold Own at e; omega), Nat.le_trans h.2.2.2 hc.size⟩

theorem RR.later {w wr w1 : World} {L R D U n B : Nat} {l : List Nat} {v : Value} (h : RR w L R D U n B l v wr) (hb : Below wr.heap.size wr w1) : RR w L R D U n B l v w1 :=
  ⟨h.1.below hb, h.2.1.later hb, h.2.2.1.trans (hb.mono h.2.2.1.size), Nat.le_trans h.2.2.2 hb.size⟩
set_option maxRecDepth 100000 in
set_option maxHeartbeats 3200000 in
theorem plays_any (n : Nat) (A : Option Addr) (len cap : Nat) (f : Nat → Nat → Int) (w : World) (hr : IRow .i64 2 w A len f) (h1 : 1 ≤ n) (h2 : n ≤ 256) (hlen : len ≤ 9223372036854775807) :
    Calls Try.prog 3 #[.int .i64 n, .slice A len cap] w fun e w' => e = .returned (.bool true) ∧ Below w.heap.size w w' := by
  have HR := Lib.hid hr
  have t1 : decide ((n : Int) < 1) = false := by simp; omega
  have t2 : decide ((256 : Int) < n) = false := by simp; omega
  clear hr
  go_enter Try.func3, Try.ntmps3
  go_wp2_with fail
  refine (new_any n _ h1 h2).mono ?_; rintro e w1 ⟨L, R, D, U, rfl, g1, k1, k2, k3, k4⟩
  have HX : Hid (w.heap.size ≤ R ∧ w.heap.size ≤ D ∧ w.heap.size ≤ U ∧ R < w1.heap.size ∧ D < w1.heap.size ∧ U < w1.heap.size) := by
    obtain ⟨up, dn, q, _⟩ := g1
    obtain ⟨cs, qd, _⟩ := q.d
    obtain ⟨ds, qu, _⟩ := q.u
    exact ⟨k1, k2, k3, q.r.lt, qd.lt, qu.lt⟩
  obtain ⟨B, hB⟩ : ∃ B, w1.heap.size = B := ⟨_, rfl⟩
  have H0 : Hid (RR w L R D U n B [] (.slice none 0 0) w1) := ⟨g1, OwnI.nil _ _, k4, by omega⟩
  rw [hB] at HX
  clear g1 k1 k2 k3 k4 hB
  go_wp2_with fail
  go_loopg [6, 7, 8, 9, 10, 11, 12, 13, 14, 15, 16] 101 (fun gk s6 s7 s8 s9 s10 s11 s12 s13 s14 s15 s16 wr => ∃ (i c' : Nat) (l : List Nat) (A' : Option Addr), s6 = .slice A' l.length c' ∧ s7 = .int .i64 i ∧ gk + i = 101 ∧ i ≤ len ∧ i ≤ 100 ∧ Hid (RR w L R D U n B l (.slice A' l.length c') wr))
  case atStart => exact ⟨0, 0, [], none, rfl, rfl, rfl, by omega, by omega, H0.out⟩
  case round =>
    obtain ⟨i, c', l, A', rfl, rfl, hgi, hin, hih, HI⟩ := hrel
    clear H0
    have hll := HI.out.1.len
    by_cases hlt : i < len
    · by_cases h100 : i < 100
      · obtain ⟨g, o, rfl, hg, hc⟩ := HR.out (by omega)
        have x0 : wr.cell? ⟨g, o + i * 2, none⟩ = some (.int .i64 (f i 0)) := (HI.out.2.2.1.cell (p := ⟨g, _, none⟩) hg).trans (hc i hlt 0 (by omega)).1
        have x1 := (HI.out.2.2.1.cell (p := ⟨g, _, none⟩) hg).trans (hc i hlt 1 (by omega)).1
        have y0 := (hc i hlt 0 (by omega)).2
        have y1 := (hc i hlt 1 (by omega)).2
        generalize f i 0 = K at *
        generalize f i 1 = X at *
        clear hc
        have hX := wf_i64 y1
        clear y0 y1
        obtain ⟨may, hmay⟩ : ∃ may, decide (0 ≤ X ∧ X < (n : Int)) = may := ⟨_, rfl⟩
        obtain ⟨kk, hkk⟩ : ∃ kk, decide (K.tmod 3 = 0 ∨ K.tmod 3 = 1) = kk := ⟨_, rfl⟩
        have HM := Lib.hid hmay
        have HK := Lib.hid hkk
        clear hmay hkk
        go_upto_region 11 with fail
        go_cut [9] (fun s9 wx => s9 = .bool may ∧ wx = wr)
        case first =>
          by_cases q1 : 0 ≤ X
          · by_cases q2 : X < (n : Int)
            · have q1' : decide (0 ≤ X) = true := by simpa using q1
              have q2' : decide (X < (n : Int)) = true := by simpa using q2
              go_wp2_with fail
              go_meet
              exact ⟨by rw [← HM.out]; simp [q1, q2], rfl⟩
            · have q1' : decide (0 ≤ X) = true := by simpa using q1
              have q2' : decide (X < (n : Int)) = false := by simpa using q2
              go_wp2_with fail
              go_meet
              exact ⟨by rw [← HM.out]; simp [q1, q2], rfl⟩
          · have q1' : decide (0 ≤ X) = false := by simpa using q1
            go_wp2_with fail
            go_meet
            exact ⟨by rw [← HM.out, show decide (0 ≤ X ∧ X < (n : Int)) = false by simp; omega], rfl⟩
        case rest =>
        obtain ⟨rfl, rfl⟩ := hcut
        go_upto_region 14 with fail
        go_cut [66] (fun s66 wx => s66 = .bool kk ∧ wx = wc)
        case first =>
          by_cases q1 : K.tmod 3 = 0
          · have q1' : (K.tmod 3 == 0) = true := by simpa using q1
            go_wp2_with fail
            go_meet
            exact ⟨by rw [← HK.out]; simp [q1], rfl⟩
          · have q1' : (K.tmod 3 == 0) = false := by simpa using q1
            by_cases q2 : K.tmod 3 = 1
            · have q2' : (K.tmod 3 == 1) = true := by simpa using q2
              go_wp2_with fail
              go_meet
              exact ⟨by rw [← HK.out]; simp [q2], rfl⟩
            · have q2' : (K.tmod 3 == 1) = false := by simpa using q2
              go_wp2_with fail
              go_meet
              exact ⟨by rw [← HK.out]; simp [q1, q2], rfl⟩
        case rest =>
        obtain ⟨rfl, rfl⟩ := hcut
        go_upto_if 66 with fail
        go_cut [6, 10, 11] (fun s6 s10 s11 wx => ∃ (l2 : List Nat) (A2 : Option Addr) (c2 : Nat) (b : Bool), s6 = .slice A2 l2.length c2 ∧ s10 = .bool b ∧ s11 = .bool b ∧ Hid (RR w L R D U n B l2 (.slice A2 l2.length c2) wx))
        case first =>
          have HNU := Lib.hid HI.out.2.1.nums
          cases kk with
          | true =>
            go_wp2_with fail
            refine (touch_any L R D U n l X _ HI.out.1 h2).mono ?_; rintro e w2 ⟨rfl, h3, c3⟩
            rw [HM.out]
            by_cases q : 0 ≤ X ∧ X < (n : Int)
            · have hm1 : may = true := by rw [← HM.out]; simpa using q
              subst hm1
              rw [touch_same q] at h3
              obtain ⟨x, rfl⟩ := Int.eq_ofNat_of_zero_le q.1
              rw [Int.toNat_natCast] at h3
              have H2 := Lib.hid (HI.out.step HX.out h3 c3)
              clear h3 c3 q
              go_wp2_with fail
              refine (refTouch_any A' l.length c' l x _ H2.out.2.1.nums (by omega)).mono ?_; rintro e w3 ⟨v, rfl, o3, b3⟩
              obtain ⟨A3, c3, rfl⟩ := o3.form
              have H3 : Hid (RR w L R D U n B (x :: less l x) (.slice A3 (x :: less l x).length c3) w3) :=
                ⟨H2.out.1.below b3, o3.base H2.out.2.2.2, H2.out.2.2.1.trans (b3.mono H2.out.2.2.1.size), Nat.le_trans H2.out.2.2.2 b3.size⟩
              clear o3 b3
              go_wp2_with fail
              go_meet
              exact ⟨x :: less l x, A3, c3, true, rfl, rfl, rfl, H3.out⟩
            · have hm1 : may = false := by rw [← HM.out]; simpa using q
              subst hm1
              rw [if_neg q] at h3
              have H2 := Lib.hid (HI.out.step HX.out h3 c3)
              clear h3 c3 q
              go_wp2_with fail
              go_meet
              exact ⟨l, A', c', false, rfl, rfl, rfl, H2.out⟩
          | false =>
            have HD := Lib.hid (drop_same (x := X) HI.out.1)
            go_wp2_with fail
            refine (drop_any L R D U n l X _ HI.out.1 h2).mono ?_; rintro e w2 ⟨rfl, h3, c3⟩
            rw [HD.out.1] at h3
            have H2 := Lib.hid (HI.out.step HX.out h3 c3)
            clear h3 c3
            go_wp2_with fail
            refine (refDrop_any A' l.length c' l X _ H2.out.2.1.nums (by omega)).mono ?_; rintro e w3 ⟨v, rfl, o3, b3⟩
            obtain ⟨A3, c3, rfl⟩ := o3.form
            have H3 : Hid (RR w L R D U n B (lessZ l X) (.slice A3 (lessZ l X).length c3) w3) :=
              ⟨H2.out.1.below b3, o3.base H2.out.2.2.2, H2.out.2.2.1.trans (b3.mono H2.out.2.2.1.size), Nat.le_trans H2.out.2.2.2 b3.size⟩
            clear o3 b3
            go_wp2_with fail
            go_meet
            exact ⟨lessZ l X, A3, c3, there l X, rfl, rfl, by rw [HD.out.2], H3.out⟩
        case rest =>
        obtain ⟨l2, A2, c2, b, rfl, rfl, rfl, HI2⟩ := hcut
        clear x0 x1 HI hll HM HK
        have hll2 := HI2.out.1.len
        go_wp2_with fail
        refine (oldest_any L R D U n l2 _ HI2.out.1 h2).mono ?_; rintro e w5 ⟨rfl, c5, h5⟩
        have H5 : Hid (RR w L R D U n B l2 (.slice A2 l2.length c2) w5) := HI2.out.step HX.out h5 c5
        clear h5 c5 HI2
        go_upto_region 21 with fail
        go_cut [14, 132] (fun s14 s wx => s = .bool false ∧ Hid (RR w L R D U n B l2 (.slice A2 l2.length c2) wx))
        case first =>
          have sb : (b != b) = false := by simp
          by_cases he : l2 = []
          · subst he
            go_wp2_with fail
            refine (all_any L R D U n [] _ H5.out.1 h2).mono ?_; rintro e w6 ⟨v, rfl, o6, b6⟩
            obtain ⟨A3, c3, rfl⟩ := o6.form
            have H6 : Hid (RR w L R D U n B [] (.slice A2 [].length c2) w6) := H5.out.later b6
            have HN := Lib.hid (ints_same A3 A2 _ c3 _ c2 [] w6 o6.nums H6.out.2.1.nums (by first | omega | (simp; done) | (simp; omega)))
            have B6 := Lib.hid b6
            clear o6 b6
            go_wp2_with fail
            refine HN.out.mono ?_; rintro e w7 ⟨rfl, b7⟩
            have H7 : Hid (RR w L R D U n B [] (.slice A2 [].length c2) w7) := H6.out.later b7
            clear b7
            go_wp2_with fail
            refine (len_ls L R D U n [] _ H7.out.1).mono ?_; rintro e w' ⟨rfl, rfl⟩
            go_wp2_with fail
            go_meet
            exact ⟨rfl, H7.out⟩
          · obtain ⟨z, hz⟩ : ∃ z, l2.length = z + 1 := ⟨l2.length - 1, by have := List.length_pos_iff.2 he; omega⟩
            have hlast := last_cell l2 z hz
            obtain ⟨g2, o2, rfl, hg2, hc2⟩ := H5.out.2.1.nums.2 (by omega)
            have xz := hc2 z (by omega)
            rw [hlast] at xz
            have e1 : decide (0 < l2.length) = true := by simp; omega
            have e2 : decide ((0 : Int) < ((l2.length : Nat) : Int)) = true := by simp; omega
            have e3 : ((l2.length : Int) - 1) = (z : Int) := by omega
            have e4 : (0 : Int) ≤ (z : Int) := by omega
            have e5 : (z : Int) < (l2.length : Int) := by omega
            rw [e1]
            have HLA := Lib.hid hlast
            have HZ := Lib.hid hz
            clear hlast hc2 he hz
            go_wp2_with fail
            refine (all_any L R D U n l2 _ H5.out.1 h2).mono ?_; rintro e w6 ⟨v, rfl, o6, b6⟩
            obtain ⟨A3, c3, rfl⟩ := o6.form
            have H6 : Hid (RR w L R D U n B l2 (.slice (some ⟨g2, o2, none⟩) l2.length c2) w6) := H5.out.later b6
            have HN := Lib.hid (ints_same A3 (some ⟨g2, o2, none⟩) _ c3 _ c2 l2 w6 o6.nums H6.out.2.1.nums (by first | omega | (simp; done) | (simp; omega)))
            have B6 := Lib.hid b6
            clear o6 b6
            go_wp2_with fail
            refine HN.out.mono ?_; rintro e w7 ⟨rfl, b7⟩
            have H7 : Hid (RR w L R D U n B l2 (.slice (some ⟨g2, o2, none⟩) l2.length c2) w7) := H6.out.later b7
            have yz := (b7.cell (p := ⟨g2, _, none⟩) (Nat.lt_of_lt_of_le hg2 B6.out.size)).trans ((B6.out.cell (p := ⟨g2, _, none⟩) hg2).trans xz)
            clear b7
            go_wp2_with fail
            refine (len_ls L R D U n l2 _ H7.out.1).mono ?_; rintro e w' ⟨rfl, rfl⟩
            go_wp2_with fail
            go_meet
            exact ⟨rfl, H7.out⟩
        case rest =>
        obtain ⟨rfl, HI3⟩ := hcut
        obtain ⟨gz, hgz⟩ : ∃ gz, gk = gz := ⟨_, rfl⟩
        rw [hgz] at hgi
        clear H5
        go_wp2_with fail
        go_loopg [15, 16] (l2.length + 1) (fun gk s15 s16 wy => ∃ k : Nat, s15 = .bool (anyZ (l2.take k) X) ∧ s16 = .int .i64 k ∧ gk + k = l2.length + 1 ∧ k ≤ l2.length ∧ wy = wc)
        case atStart => exact ⟨0, rfl, rfl, by omega, by omega, rfl⟩
        case round =>
          obtain ⟨k, rfl, rfl, hgk, hkl, rfl⟩ := hrel
          by_cases hk : k < l2.length
          · obtain ⟨g2, o2, rfl, hg2, hc2⟩ := HI3.out.2.1.nums.2 (by omega)
            have xk := hc2 k hk
            have ht : l2.take (k + 1) = l2.take k ++ [l2.getD k 0] := by
              rw [List.take_add_one, List.getD_eq_getElem?_getD, List.getElem?_eq_getElem hk]; rfl
            have hs := anyZ_snoc (l2.take k) (l2.getD k 0) X
            rw [← ht] at hs
            generalize l2.getD k 0 = z at *
            have HS := Lib.hid hs
            clear hs ht hc2
            cases hany : anyZ (l2.take k) X with
            | true =>
              rw [hany] at HS
              have HA := Lib.hid hany
              clear hany
              go_wp2_with fail
              go_roundg (gk - 1)
              case rel => exact ⟨k + 1, by rw [HS.out]; rfl, by go_num, by omega, by omega, rfl⟩
              case measure => omega
            | false =>
              rw [hany] at HS
              have HA := Lib.hid hany
              clear hany
              go_wp2_with fail
              go_roundg (gk - 1)
              case rel => exact ⟨k + 1, by rw [HS.out]; rfl, by go_num, by omega, by omega, rfl⟩
              case measure => omega
          · obtain rfl : k = l2.length := by omega
            rw [List.take_length, anyZ_there]
            go_wp2_with fail
            refine (has_any L R D U n l2 X _ HI3.out.1 h2).mono ?_; rintro e w' ⟨rfl, rfl⟩
            have sb : (there l2 X != there l2 X) = false := by simp
            go_wp2_with fail
            go_roundg (gz - 1)
            case rel => exact ⟨i + 1, c2, l2, A2, rfl, by go_num, by omega, by omega, by omega, HI3.out⟩
            case measure => omega
      · obtain rfl : i = 100 := by omega
        go_wp2_with (go_at_call 6; refine (lives_any _).mono ?_; rintro e w1 ⟨rfl, h1⟩; have H1 := Lib.hid h1; clear h1)
        go_ret
        exact ⟨rfl, HI.out.2.2.1.trans (H1.out.mono HI.out.2.2.1.size)⟩
    · obtain rfl : i = len := by omega
      go_wp2_with (go_at_call 6; refine (lives_any _).mono ?_; rintro e w1 ⟨rfl, h1⟩; have H1 := Lib.hid h1; clear h1)
      go_ret
      exact ⟨rfl, HI.out.2.2.1.trans (H1.out.mono HI.out.2.2.1.size)⟩
theorem plays_walk (n : Int) (A : Option Addr) (len cap : Nat) (f : Nat → Nat → Int) (w : World) (hr : IRow .i64 2 w A len f) (hlen : len ≤ 9223372036854775807) :
    Calls Try.prog 3 #[.int .i64 n, .slice A len cap] w fun e w' => e = .returned (.bool true) ∧ Below w.heap.size w w' := by
  by_cases h : n < 1 ∨ 256 < n
  · exact plays_none n _ w h
  · obtain ⟨m, rfl⟩ := Int.eq_ofNat_of_zero_le (show 0 ≤ n by omega)
    exact plays_any m A len cap f w hr (by omega) (by omega) hlen
end Go.Proofs.Ythaaonafpbodmaa
