/- Layer 10: the law HammingMends, walked. No conditions. -/
import Derived.Test.YteempadjldcmlaaHamD
namespace Go.Proofs.Yteempadjldcmlaa
open Go.RowKit
set_option linter.unusedVariables false

set_option maxHeartbeats 2000000 in
theorem mends_no (w : World) (a b k j : Int) (h : (a < 0) ∨ (0 ≤ a ∧ 15 < a) ∨ (0 ≤ a ∧ a ≤ 15 ∧ b < 0) ∨ (0 ≤ a ∧ a ≤ 15 ∧ 0 ≤ b ∧ 15 < b) ∨ (0 ≤ a ∧ a ≤ 15 ∧ 0 ≤ b ∧ b ≤ 15 ∧ k < 0) ∨ (0 ≤ a ∧ a ≤ 15 ∧ 0 ≤ b ∧ b ≤ 15 ∧ 0 ≤ k ∧ 7 < k) ∨ (0 ≤ a ∧ a ≤ 15 ∧ 0 ≤ b ∧ b ≤ 15 ∧ 0 ≤ k ∧ k ≤ 7 ∧ j < 0) ∨ (0 ≤ a ∧ a ≤ 15 ∧ 0 ≤ b ∧ b ≤ 15 ∧ 0 ≤ k ∧ k ≤ 7 ∧ 0 ≤ j ∧ 7 < j)) : Calls Try.prog 4 #[.agg #[.int .i64 a, .int .i64 b, .int .i64 k, .int .i64 j]] w fun e w' => e = .returned (.bool true) ∧ Below w.heap.size w w' := by
  have HB0 := hide ((Below.refl w.heap.size w).alloc (Nat.le_refl _) (.cells #[.int .i64 a, .int .i64 b, .int .i64 k, .int .i64 j] 36))
  rcases h with h0 | ⟨h0, h1⟩ | ⟨h0, h1, h2⟩ | ⟨h0, h1, h2, h3⟩ | ⟨h0, h1, h2, h3, h4⟩ | ⟨h0, h1, h2, h3, h4, h5⟩ | ⟨h0, h1, h2, h3, h4, h5, h6⟩ | ⟨h0, h1, h2, h3, h4, h5, h6, h7⟩
  all_goals
    go_enter Try.func4, Try.ntmps4
    go_wp2
    go_region
    go_wp2_with fail
    refine (live10 _).mono ?_; rintro e w7 ⟨rfl, n7, rfl⟩
    go_wp2
    go_ret
    exact ⟨rfl, below_drewN HB0.out _⟩
set_option maxRecDepth 100000 in
set_option maxHeartbeats 2000000 in
theorem mends_in (w : World) (a b k j : Nat) (ha : a < 16) (hb : b < 16) (hk : k < 8) (hj : j < 8) : Calls Try.prog 4 #[.agg #[.int .i64 (a : Int), .int .i64 (b : Int), .int .i64 (k : Int), .int .i64 (j : Int)]] w fun e w' => e = .returned (.bool true) ∧ Below w.heap.size w w' := by
  have HB0 := hide ((Below.refl w.heap.size w).alloc (Nat.le_refl _) (.cells #[.int .i64 (a : Int), .int .i64 (b : Int), .int .i64 (k : Int), .int .i64 (j : Int)] 36))
  have HW1 := hide (fun W => word_in a ha W)
  have HW2 := hide (fun W => word_in b hb W)
  have hv : Hm.word a < 256 := Hm.word_lt ⟨a, ha⟩
  have hu : Hm.word b < 256 := Hm.word_lt ⟨b, hb⟩
  have hp1 : 2 ^ k < 2 ^ 8 := Nat.pow_lt_pow_right (by omega) hk
  have hp2 : 2 ^ j < 2 ^ 8 := Nat.pow_lt_pow_right (by omega) hj
  have hx1 : Hm.word a ^^^ 2 ^ k < 256 := Nat.xor_lt_two_pow (n := 8) hv hp1
  have hx2 : Hm.word a ^^^ 2 ^ k ^^^ 2 ^ j < 256 := Nat.xor_lt_two_pow (n := 8) hx1 hp2
  have HH0 := hide (fun W => half_any (Hm.word a) hv W)
  rw [show Hm.half (Hm.word a) = (a, 0, 0) from Hm.half_word ⟨a, ha⟩] at HH0
  have HH1 := hide (fun W => half_any (Hm.word a ^^^ 2 ^ k) hx1 W)
  rw [show Hm.half (Hm.word a ^^^ 2 ^ k) = (a, 1, 0) from Hm.half_one ⟨a, ha⟩ ⟨k, hk⟩] at HH1
  have HH2 : Hid (k ≠ j → ∀ W, Calls Try.prog 13 #[.int .u8 ((Hm.word a ^^^ 2 ^ k ^^^ 2 ^ j : Nat) : Int)] W fun e w' => e = .returned (.tuple #[.int .i64 0, .int .i64 0, .int .i64 100]) ∧ W = w') := by
    intro hkj W
    have h := half_any (Hm.word a ^^^ 2 ^ k ^^^ 2 ^ j) hx2 W
    rw [show Hm.half (Hm.word a ^^^ 2 ^ k ^^^ 2 ^ j) = (0, 0, 100) from Hm.half_two ⟨a, ha⟩ ⟨k, hk⟩ ⟨j, hj⟩ (fun e => hkj (congrArg Fin.val e))] at h
    exact h
  have HE1 := hide (xor_pow (Hm.word a) k hv hk)
  have HE2 := hide (xor_pow (Hm.word a ^^^ 2 ^ k) j hx1 hj)
  have HA := hide (fun W => apart_at (Hm.word a) (Hm.word b) hv hu W)
  have hfar : a ≠ b → 4 ≤ Hm.apart (Hm.word a) (Hm.word b) := fun h => Hm.far ⟨a, ha⟩ ⟨b, hb⟩ (fun e => h (congrArg Fin.val e))
  obtain ⟨v, hv2⟩ : ∃ v, v = Hm.word a := ⟨_, rfl⟩
  obtain ⟨u, hu2⟩ : ∃ u, u = Hm.word b := ⟨_, rfl⟩
  rw [← hv2] at HW1 HH0 HH1 HH2 HE1 HE2 HA hfar
  rw [← hu2] at HW2 HA hfar
  obtain ⟨d, hd⟩ : ∃ d, d = Hm.apart v u := ⟨_, rfl⟩
  rw [← hd] at HA hfar
  obtain ⟨x1, hxx⟩ : ∃ x, x = v ^^^ 2 ^ k := ⟨_, rfl⟩
  rw [← hxx] at HH1 HH2 HE1 HE2
  obtain ⟨x2, hxx2⟩ : ∃ x, x = x1 ^^^ 2 ^ j := ⟨_, rfl⟩
  rw [← hxx2] at HH2 HE2
  have l1 : (a : Int) ≤ 15 := by omega
  have l2 : (b : Int) ≤ 15 := by omega
  have l3 : (k : Int) ≤ 7 := by omega
  have l4 : (j : Int) ≤ 7 := by omega
  have ht : ((a : Int) != (a : Int)) = false := by simp
  clear hv hu hp1 hp2 hx1 hx2 hv2 hu2 hd hxx hxx2 ha hb hk hj
  by_cases hab : a = b
  · subst hab
    clear hfar
    go_enter Try.func4, Try.ntmps4
    go_wp2
    go_region
    go_wp2_with fail
    refine (HW1.out _).mono ?_; rintro e w' ⟨rfl, n1, rfl⟩
    go_wp2_with fail
    refine (HW1.out _).mono ?_; rintro e w' ⟨rfl, n2, rfl⟩
    go_wp2_with fail
    rw [HE1.out]
    refine (HH1.out _).mono ?_; rintro e w' ⟨rfl, rfl⟩
    go_wp2_with fail
    refine (HH0.out _).mono ?_; rintro e w' ⟨rfl, rfl⟩
    go_wp2_with fail
    refine (num10 _ _).mono ?_; rintro e w' ⟨rfl, rfl⟩
    go_wp2_with fail
    refine (num10 _ _).mono ?_; rintro e w' ⟨rfl, rfl⟩
    by_cases hkj : k = j
    · subst hkj
      have hq : ((k : Int) == (k : Int)) = true := by simp
      go_wp2_with fail
      refine (live10 _).mono ?_; rintro e w' ⟨rfl, n7, rfl⟩
      go_wp2
      go_ret
      exact ⟨rfl, below_drewN HB0.out _⟩
    · have hq : ((k : Int) == (j : Int)) = false := by simp; omega
      have HH2 := hide (HH2.out hkj)
      clear hkj
      go_wp2_with fail
      rw [HE2.out]
      refine (HH2.out _).mono ?_; rintro e w' ⟨rfl, rfl⟩
      go_wp2_with fail
      refine (num10 _ _).mono ?_; rintro e w' ⟨rfl, rfl⟩
      go_wp2_with fail
      refine (live10 _).mono ?_; rintro e w' ⟨rfl, n7, rfl⟩
      go_wp2
      go_ret
      exact ⟨rfl, below_drewN HB0.out _⟩
  · have hab2 : ((a : Int) != (b : Int)) = true := by simp; omega
    have hd4 : 4 ≤ (d : Int) := by have := hfar hab; omega
    clear hfar hab
    go_enter Try.func4, Try.ntmps4
    go_wp2
    go_region
    go_wp2_with fail
    refine (HW1.out _).mono ?_; rintro e w' ⟨rfl, n1, rfl⟩
    go_wp2_with fail
    refine (HW2.out _).mono ?_; rintro e w' ⟨rfl, n2, rfl⟩
    go_wp2_with fail
    refine (HA.out _).mono ?_; rintro e w' ⟨rfl, rfl⟩
    go_wp2_with fail
    rw [HE1.out]
    refine (HH1.out _).mono ?_; rintro e w' ⟨rfl, rfl⟩
    go_wp2_with fail
    refine (HH0.out _).mono ?_; rintro e w' ⟨rfl, rfl⟩
    go_wp2_with fail
    refine (num10 _ _).mono ?_; rintro e w' ⟨rfl, rfl⟩
    go_wp2_with fail
    refine (num10 _ _).mono ?_; rintro e w' ⟨rfl, rfl⟩
    by_cases hkj : k = j
    · subst hkj
      have hq : ((k : Int) == (k : Int)) = true := by simp
      go_wp2_with fail
      refine (live10 _).mono ?_; rintro e w' ⟨rfl, n7, rfl⟩
      go_wp2
      go_ret
      exact ⟨rfl, below_drewN HB0.out _⟩
    · have hq : ((k : Int) == (j : Int)) = false := by simp; omega
      have HH2 := hide (HH2.out hkj)
      clear hkj
      go_wp2_with fail
      rw [HE2.out]
      refine (HH2.out _).mono ?_; rintro e w' ⟨rfl, rfl⟩
      go_wp2_with fail
      refine (num10 _ _).mono ?_; rintro e w' ⟨rfl, rfl⟩
      go_wp2_with fail
      refine (live10 _).mono ?_; rintro e w' ⟨rfl, n7, rfl⟩
      go_wp2
      go_ret
      exact ⟨rfl, below_drewN HB0.out _⟩

theorem walk_HammingMends (w : World) (a b k j : Int) (ha : Fit a) (hb : Fit b) (hk : Fit k) (hj : Fit j) : Calls Try.prog 4 #[.agg #[.int .i64 a, .int .i64 b, .int .i64 k, .int .i64 j]] w fun e w' => e = .returned (.bool true) ∧ Below w.heap.size w w' := by
  by_cases h : 0 ≤ a ∧ a ≤ 15 ∧ 0 ≤ b ∧ b ≤ 15 ∧ 0 ≤ k ∧ k ≤ 7 ∧ 0 ≤ j ∧ j ≤ 7
  · obtain ⟨h0, h1, h2, h3, h4, h5, h6, h7⟩ := h
    obtain ⟨a, rfl⟩ := Int.eq_ofNat_of_zero_le h0
    obtain ⟨b, rfl⟩ := Int.eq_ofNat_of_zero_le h2
    obtain ⟨k, rfl⟩ := Int.eq_ofNat_of_zero_le h4
    obtain ⟨j, rfl⟩ := Int.eq_ofNat_of_zero_le h6
    exact mends_in w a b k j (by omega) (by omega) (by omega) (by omega)
  · exact mends_no w a b k j (by omega)
end Go.Proofs.Yteempadjldcmlaa
