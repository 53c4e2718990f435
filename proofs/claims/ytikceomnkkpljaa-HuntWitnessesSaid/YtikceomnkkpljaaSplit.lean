/-
  The walks of harrierref01.U16, U32 and harrierref12.Split, for what may be. No condition beyond that.
-/
import Derived.Test.YtikceomnkkpljaaSame
namespace Go.Proofs.Ytikceomnkkpljaa
open Go.ChangeShapes Go.WideShapes Go.ChangeAt Go.RowKit
set_option linter.unusedVariables false
set_option linter.unusedSimpArgs false

theorem u16_any (g k : Nat) (x y : Int) (w : World) (hk : k = 12 ∨ k = 14) (hx : w.cell? ⟨g, k, none⟩ = some (.int .u8 x)) (hy : w.cell? ⟨g, k + 1, none⟩ = some (.int .u8 y)) (rx : 0 ≤ x ∧ x ≤ 255) (ry : 0 ≤ y ∧ y ≤ 255) :
    Calls Try.prog 36 #[.slice (some ⟨g, 0, none⟩) 16 16, .int .i64 (k : Int)] w fun e w' => e = .returned (.tuple #[.int .i64 (x * 256 + y), .bool true]) ∧ Below w.heap.size w w' := by
  have e1 : wrap64 (x * 256) = x * 256 := IntWalk.wrap64_in _ (by omega)
  have e2 : wrap64 (x * 256 + y) = x * 256 + y := IntWalk.wrap64_in _ (by omega)
  have e3 : wrap64 x = x := IntWalk.wrap64_in _ (by omega)
  have e4 : wrap64 y = y := IntWalk.wrap64_in _ (by omega)
  have HB : Hid (Below w.heap.size w w.drew) := (Below.refl _ _).drew
  clear rx ry
  rcases hk with rfl | rfl
  · go_enter Try.func36, Try.ntmps36
    go_upto_region 3 with fail
    go_region
    all_goals
      go_wp2_with fail
      go_returns
      exact ⟨by simp [e1, e2, e3, e4], HB.out⟩
  · go_enter Try.func36, Try.ntmps36
    go_upto_region 3 with fail
    go_region
    all_goals
      go_wp2_with fail
      go_returns
      exact ⟨by simp [e1, e2, e3, e4], HB.out⟩

theorem u32_any (g : Nat) (x : Int) (w : World) (hc : ∀ (i : Nat) (h : i < 4), w.cell? ⟨g, 12 + i, none⟩ = some (.int .u8 ((by4 x).getD i 0))) (hg : g < w.heap.size) (rx : 0 ≤ x ∧ x ≤ 4294967295) :
    Calls Try.prog 31 #[.slice (some ⟨g, 0, none⟩) 16 16, .int .i64 12] w fun e w' => e = .returned (.tuple #[.int .u32 x, .bool true]) ∧ Below w.heap.size w w' := by
  obtain ⟨a, ha⟩ : ∃ a, x / 16777216 = a := ⟨_, rfl⟩
  obtain ⟨b, hb⟩ : ∃ b, x / 65536 % 256 = b := ⟨_, rfl⟩
  obtain ⟨c, hcc⟩ : ∃ c, x / 256 % 256 = c := ⟨_, rfl⟩
  obtain ⟨d, hd⟩ : ∃ d, x % 256 = d := ⟨_, rfl⟩
  have ra : 0 ≤ a ∧ a ≤ 255 := by omega
  have rb : 0 ≤ b ∧ b ≤ 255 := by omega
  have rc : 0 ≤ c ∧ c ≤ 255 := by omega
  have rd : 0 ≤ d ∧ d ≤ 255 := by omega
  have e1 : IntKind.u32.wrap (a * 256 + b) = a * 256 + b := IntWalk.u32_in _ (by omega)
  have e2 : IntKind.u32.wrap ((a * 256 + b) * 65536) = (a * 256 + b) * 65536 := IntWalk.u32_in _ (by omega)
  have e3 : IntKind.u32.wrap (c * 256 + d) = c * 256 + d := IntWalk.u32_in _ (by omega)
  have e4 : IntKind.u32.wrap ((a * 256 + b) * 65536 + (c * 256 + d)) = x := by rw [IntWalk.u32_in _ (by omega)]; omega
  have H1 : Hid (Calls Try.prog 36 #[.slice (some ⟨g, 0, none⟩) 16 16, .int .i64 12] w fun e w' => e = .returned (.tuple #[.int .i64 (a * 256 + b), .bool true]) ∧ Below w.heap.size w w') := by
    refine u16_any g 12 a b w (Or.inl rfl) ?_ ?_ ra rb
    · rw [hc 0 (by omega), ← ha]; rfl
    · rw [hc 1 (by omega), ← hb]; rfl
  have H2 : ∀ W, Below w.heap.size w W → Calls Try.prog 36 #[.slice (some ⟨g, 0, none⟩) 16 16, .int .i64 14] W fun e w' => e = .returned (.tuple #[.int .i64 (c * 256 + d), .bool true]) ∧ Below w.heap.size w w' := by
    intro W hW
    refine (u16_any g 14 c d W (Or.inr rfl) ?_ ?_ rc rd).mono ?_
    · rw [hW.cell (p := ⟨g, _, none⟩) hg, hc 2 (by omega), ← hcc]; rfl
    · rw [hW.cell (p := ⟨g, _, none⟩) hg, hc 3 (by omega), ← hd]; rfl
    · rintro e w' ⟨rfl, h⟩; exact ⟨rfl, hW.trans (h.mono hW.size)⟩
  have HH2 := Lib.hid H2
  have HE := Lib.hid e4
  clear hc ha hb hcc hd ra rb rc rd rx H2
  go_enter Try.func31, Try.ntmps31
  go_upto_region 3 with fail
  go_wp2_with fail
  refine H1.out.mono ?_; rintro e w1 ⟨rfl, b1⟩
  have B1 := Lib.hid b1
  clear b1
  go_wp2_with fail
  refine (HH2.out w1 B1.out).mono ?_; rintro e w2 ⟨rfl, b2⟩
  have B2 := Lib.hid b2
  clear b2
  go_wp2_with fail
  go_returns
  exact ⟨rfl, B2.out⟩

theorem adr_lay (n d a : Int) : adrV n d a = lay16 (n / 256 % 256) (n % 256) d (a / 16777216) (a / 65536 % 256) (a / 256 % 256) (a % 256) := rfl
theorem lay_one (p q d x0 x1 x2 x3 : Int) : (lay16 p q d x0 x1 x2 x3).size = 16 := rfl
set_option maxHeartbeats 1600000 in
theorem split_any (n d a : Int) (w : World) (hn : 0 ≤ n ∧ n ≤ 65535) (hd : 0 ≤ d ∧ d ≤ 255) (ha : 0 ≤ a ∧ a ≤ 4294967295) :
    Calls Try.prog 18 #[.agg (adrV n d a)] w fun e w' => e = .returned (.tuple #[.agg #[.int .i64 n, .int .i64 d, .int .u32 a], .bool true]) ∧ Below w.heap.size w w' := by
  obtain ⟨p, hp⟩ : ∃ p, n / 256 % 256 = p := ⟨_, rfl⟩
  obtain ⟨q, hq⟩ : ∃ q, n % 256 = q := ⟨_, rfl⟩
  obtain ⟨x0, h0⟩ : ∃ x, a / 16777216 = x := ⟨_, rfl⟩
  obtain ⟨x1, h1⟩ : ∃ x, a / 65536 % 256 = x := ⟨_, rfl⟩
  obtain ⟨x2, h2⟩ : ∃ x, a / 256 % 256 = x := ⟨_, rfl⟩
  obtain ⟨x3, h3⟩ : ∃ x, a % 256 = x := ⟨_, rfl⟩
  rw [adr_lay, hp, hq, h0, h1, h2, h3]
  obtain ⟨wa, hwaE⟩ : ∃ wa, (w.alloc (.cells (lay16 p q d x0 x1 x2 x3) 34)).alloc (.cells #[.int .i64 0, .int .i64 0, .int .u32 0] 39) = wa := ⟨_, rfl⟩
  have K1 : Hid (Blk wa w.heap.size 34 (lay16 p q d x0 x1 x2 x3)) := by unfold Hid; rw [← hwaE]; exact (Blk.new w 34 _).more _
  have K2 : Hid (Blk wa (w.heap.size + 1) 39 #[.int .i64 0, .int .i64 0, .int .u32 0]) := by unfold Hid; rw [← hwaE]; exact Blk.newAt _ 39 _ _ (by simp)
  have HB0 : Hid (Below w.heap.size w wa) := by unfold Hid; rw [← hwaE]; exact ((Below.refl _ _).alloc (Nat.le_refl _) _).alloc (by simp) _
  have HSZ : Hid (wa.heap.size = w.heap.size + 2) := by unfold Hid; rw [← hwaE]; simp
  have hwaH := Lib.hid hwaE
  have HP : Hid (p * 256 + q = n ∧ 0 ≤ p ∧ p ≤ 255 ∧ 0 ≤ q ∧ q ≤ 255) := by unfold Hid; omega
  have HU : Hid (Calls Try.prog 31 #[.slice (some ⟨w.heap.size, 0, none⟩) 16 16, .int .i64 12] wa fun e w' => e = .returned (.tuple #[.int .u32 a, .bool true]) ∧ Below wa.heap.size wa w') := by
    refine u32_any w.heap.size a wa (fun i hi => ?_) K1.out.lt ha
    rw [K1.out.cell (12 + i)]
    unfold by4
    rw [h0, h1, h2, h3]
    rcases (show i = 0 ∨ i = 1 ∨ i = 2 ∨ i = 3 by omega) with rfl | rfl | rfl | rfl <;> rfl
  have HD := Lib.hid hd
  clear hwaE hp hq h0 h1 h2 h3 hn ha hd
  go_enter Try.func18, Try.ntmps18
  go_upto_region 1 with fail
  rw [hwaH.out]
  have c0 : wa.cell? ⟨w.heap.size, 0, none⟩ = some (.int .u8 253) := (K1.out.cell 0).trans rfl
  have c1 : wa.cell? ⟨w.heap.size, 1, none⟩ = some (.int .u8 108) := (K1.out.cell 1).trans rfl
  have c2 : wa.cell? ⟨w.heap.size, 2, none⟩ = some (.int .u8 0) := (K1.out.cell 2).trans rfl
  have c3 : wa.cell? ⟨w.heap.size, 3, none⟩ = some (.int .u8 98) := (K1.out.cell 3).trans rfl
  have c4 : wa.cell? ⟨w.heap.size, 4, none⟩ = some (.int .u8 0) := (K1.out.cell 4).trans rfl
  have c5 : wa.cell? ⟨w.heap.size, 5, none⟩ = some (.int .u8 0) := (K1.out.cell 5).trans rfl
  have c6 : wa.cell? ⟨w.heap.size, 6, none⟩ = some (.int .u8 0) := (K1.out.cell 6).trans rfl
  have c7 : wa.cell? ⟨w.heap.size, 7, none⟩ = some (.int .u8 0) := (K1.out.cell 7).trans rfl
  have c11 : wa.cell? ⟨w.heap.size, 11, none⟩ = some (.int .u8 0) := (K1.out.cell 11).trans rfl
  go_upto_region 3 with fail
  clear c0 c1 c2 c3 c4 c5 c6 c7 c11
  go_wp2_with fail
  refine HU.out.mono ?_; rintro e w1 ⟨rfl, b1⟩
  have B1 := Lib.hid b1
  clear b1
  have J1 := Lib.hid (K1.out.below B1.out K1.out.lt)
  have J2 := Lib.hid (K2.out.below B1.out K2.out.lt)
  have x8 : w1.cell? ⟨w.heap.size, 8, none⟩ = some (.int .u8 p) := (J1.out.cell 8).trans rfl
  have x9 : w1.cell? ⟨w.heap.size, 9, none⟩ = some (.int .u8 q) := (J1.out.cell 9).trans rfl
  have x10 : w1.cell? ⟨w.heap.size, 10, none⟩ = some (.int .u8 d) := (J1.out.cell 10).trans rfl
  have hp := HP.out
  have e1 : wrap64 p = p := IntWalk.wrap64_in _ (by omega)
  have e2 : wrap64 q = q := IntWalk.wrap64_in _ (by omega)
  have e3 : wrap64 d = d := IntWalk.wrap64_in _ (by have := HD.out; omega)
  have e4 : wrap64 (p * 256) = p * 256 := IntWalk.wrap64_in _ (by omega)
  have e5 : wrap64 (p * 256 + q) = n := by rw [IntWalk.wrap64_in _ (by omega)]; omega
  have hi39 : Hid ((Try.prog.info? 39).map (·.size) = some (#[.int .i64 n, .int .i64 d, .int .u32 a] : Array Value).size) := size39
  have HBB : Hid (Below w.heap.size w w1) := HB0.out.trans (B1.out.mono (by rw [HSZ.out]; omega))
  clear hp
  go_upto_region 4 with fail
  have f0 := J2.out.free 0
  have f1 := J2.out.free 1
  have f2 := J2.out.free 2
  have y0 : w1.cell? ⟨w.heap.size + 1, 0, none⟩ = some (.int .i64 0) := (J2.out.cell 0).trans rfl
  have y1 : w1.cell? ⟨w.heap.size + 1, 1, none⟩ = some (.int .i64 0) := (J2.out.cell 1).trans rfl
  have y2 : w1.cell? ⟨w.heap.size + 1, 2, none⟩ = some (.int .u32 0) := (J2.out.cell 2).trans rfl
  go_wp2_with fail
  have KF := ((J2.out.put 0 (.int .i64 n) rfl).put 1 (.int .i64 d) rfl).put 2 (.int .u32 a) rfl
  refine bodyPost_ret (results_cell_tmp' rfl _ _ (w.heap.size + 1) 39 #[.int .i64 n, .int .i64 d, .int .u32 a] _ _ rfl KF Try.underlying39 rfl hi39.out) rfl ?_
  exact ⟨rfl, ((HBB.out.setCell (by simp) _).setCell (by simp) _).setCell (by simp) _⟩

end Go.Proofs.Ytikceomnkkpljaa
