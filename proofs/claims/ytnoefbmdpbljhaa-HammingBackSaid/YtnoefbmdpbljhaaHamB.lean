/- Layer 10 (hamming) and its reference: Word, Half, Apart, by what they compute. No conditions. -/
import Derived.Test.YtnoefbmdpbljhaaHamA
namespace Go.Proofs.Ytnoefbmdpbljhaa
open Go.RowKit
set_option linter.unusedVariables false

theorem word_out (h : Int) (hh : h < 0 ∨ 15 < h) (w : World) : Calls Try.prog 10 #[.int .i64 h] w fun e w' => e = .returned (.tuple #[.int .u8 0, .int .i64 1]) ∧ w = w' := by
  by_cases h0 : h < 0
  · clear hh
    go_enter Try.func10, Try.ntmps10
    go_wp2
    go_ret2
    exact ⟨rfl, rfl⟩
  · have h1 : 16 ≤ h := by omega
    clear hh
    go_enter Try.func10, Try.ntmps10
    go_wp2
    go_ret2
    exact ⟨rfl, rfl⟩
theorem word_in (x : Nat) (hx : x < 16) (w : World) : Calls Try.prog 10 #[.int .i64 (x : Int)] w fun e w' => e = .returned (.tuple #[.int .u8 (Hm.word x : Nat), .int .i64 0]) ∧ ∃ n, w' = w.drewN n := by
  have HS := hide (spread_any x hx w)
  have HF := hide (filled_any (Hm.sp x 4) (Hm.sp_lt ⟨x, hx⟩ 4) w)
  go_enter Try.func10, Try.ntmps10
  go_wp2_with fail
  refine HS.out.mono ?_; rintro e w' ⟨rfl, rfl⟩
  go_wp2_with fail
  refine HF.out.mono ?_; rintro e w' ⟨rfl, n, rfl⟩
  go_wp2
  go_ret2
  exact ⟨rfl, n, rfl⟩
theorem apart_at (a b : Nat) (ha : a < 256) (hb : b < 256) (w : World) : Calls Try.prog 15 #[.int .u8 (a : Int), .int .u8 (b : Int)] w fun e w' => e = .returned (.int .i64 (Hm.apart a b : Nat)) ∧ w = w' := by
  have hx : a ^^^ b < 256 := Nat.xor_lt_two_pow (n := 8) ha hb
  have HP := hide (pop_any ((a ^^^ b : Nat) : Int) w (by omega) (by omega))
  rw [← u8_xor_nat a b ha hb] at HP
  have e : (bits .xor .u8 (a : Int) (b : Int)).toNat = a ^^^ b := by rw [u8_xor_nat a b ha hb]; rfl
  have HE := hide e
  clear e hx
  go_enter Try.func15, Try.ntmps15
  go_wp2_with fail
  refine HP.out.mono ?_; rintro e w' ⟨rfl, rfl⟩
  go_wp2
  go_ret
  refine ⟨?_, rfl⟩
  unfold Hm.apart
  rw [← HE.out]; rfl
theorem bit_any (n k : Nat) (hn : n < 9223372036854775808) (hk : k < 9223372036854775808) (w : World) : Calls Try.prog 38 #[.int .i64 (n : Int), .int .i64 (k : Int)] w fun e w' => e = .returned (.int .i64 (Hm.bit n k : Nat)) ∧ w = w' := by
  go_enter Try.func38, Try.ntmps38
  go_wp2
  go_loop [0, 5] (fun v i => ∃ j : Nat, j ≤ k ∧ i = .int .i64 j ∧ ∃ m : Nat, m ≤ n ∧ Hid (m = n / 2 ^ j) ∧ v = .int .i64 m) (fun _ i => k - (intOf i).toNat)
  case atStart => exact ⟨0, by omega, rfl, n, Nat.le_refl _, by show n = n / 2 ^ 0; simp, rfl⟩
  case round =>
    obtain ⟨j, hj, rfl, m, hm, hmj, rfl⟩ := hrel
    by_cases hlt : j < k
    · go_wp2
      go_round
      case rel =>
        refine ⟨j + 1, by omega, by go_num, m / 2, by omega, ?_, by go_num⟩
        show m / 2 = n / 2 ^ (j + 1)
        rw [hmj.out, Nat.div_div_eq_div_mul, Nat.pow_succ]
      case measure => simp [intOf]; omega
    · obtain rfl : j = k := by omega
      go_wp2
      go_ret
      refine ⟨?_, rfl⟩
      unfold Hm.bit
      rw [← hmj.out]
      rfl
theorem pow_u8 (y : Nat) (hy : y < 8) : (2 : Int) ^ y % 256 = ((2 ^ y : Nat) : Int) := by
  rcases (by omega : y = 0 ∨ y = 1 ∨ y = 2 ∨ y = 3 ∨ y = 4 ∨ y = 5 ∨ y = 6 ∨ y = 7) with rfl | rfl | rfl | rfl | rfl | rfl | rfl | rfl <;> rfl
theorem xor_pow (x y : Nat) (hx : x < 256) (hy : y < 8) : bits .xor .u8 (x : Int) (2 ^ y % 256) = ((x ^^^ 2 ^ y : Nat) : Int) := by
  rw [pow_u8 y hy, u8_xor_nat x (2 ^ y) hx (Nat.pow_lt_pow_right (n := 8) (by omega) hy)]
theorem wrap_bit (o : Nat) (ho : o < 2) : wrap64 (o : Int) = (o : Int) := by unfold wrap64; omega
theorem or_at (y o m : Nat) (hy : y < 8) (ho : o < 2) (hm : m < 256) : bits .or .i64 (y : Int) (wrap64 (wrap64 (o : Int) * (m : Int))) = ((y ||| o * m : Nat) : Int) := by
  have h3 : o * m ≤ 1 * m := Nat.mul_le_mul_right m (by omega)
  rw [wrap_bit o ho, ← Int.natCast_mul, ← or64 y (o * m) (by omega) (by omega)]
  congr 1
  unfold wrap64; omega
theorem or_at0 (y o : Nat) (hy : y < 8) (ho : o < 2) : bits .or .i64 (y : Int) (wrap64 (wrap64 (o : Int))) = ((y ||| o * 1 : Nat) : Int) := by
  rw [wrap_bit o ho, wrap_bit o ho, Nat.mul_one, or64 y o (by omega) (by omega)]
set_option maxHeartbeats 400000 in
theorem half_any (x : Nat) (hx : x < 256) (w : World) : Calls Try.prog 13 #[.int .u8 (x : Int)] w fun e w' => e = .returned (.tuple #[.int .i64 ((Hm.half x).1 : Nat), .int .i64 ((Hm.half x).2.1 : Nat), .int .i64 ((Hm.half x).2.2 : Nat)]) ∧ w = w' := by
  have HX := hide (odd_any (x : Int) x rfl hx)
  go_enter Try.func13, Try.ntmps13
  go_wp2
  go_loop [5, 8] (fun v i => ∃ k : Nat, k ≤ 3 ∧ i = .int .i64 k ∧ v = .int .i64 (Hm.at_ x k : Nat)) (fun _ i => 3 - (intOf i).toNat)
  case atStart => exact ⟨0, by omega, rfl, rfl⟩
  case round =>
    obtain ⟨k, hk, rfl, rfl⟩ := hrel
    by_cases hlt : k < 3
    · have ht : Hm.told k < 256 := Hm.told_lt ⟨k, hlt⟩
      have HA := hide (u8_and_nat x (Hm.told k) hx ht)
      have HT := hide (fun W => told_any k hlt (k : Int) rfl W)
      have HO := hide (fun W => odd_any _ _ HA.out (Nat.lt_of_le_of_lt Nat.and_le_left hx) W)
      have HY : Hid (Hm.at_ x k < 8) := Hm.at_lt ⟨x, hx⟩ ⟨k, by omega⟩
      obtain ⟨y, hy⟩ : ∃ y, y = Hm.at_ x k := ⟨_, rfl⟩
      rw [← hy] at HY ⊢
      obtain ⟨z, hz⟩ : ∃ z, z = Hm.told k := ⟨_, rfl⟩
      rw [← hz] at HA HO HT
      have HN : Hid ((y ||| Hm.odd (x &&& z) * 2 ^ k : Nat) = Hm.at_ x (k + 1)) := by subst hy hz; rfl
      clear hy hz ht
      have hod := Hm.odd_lt (x &&& z)
      rcases (by omega : k = 0 ∨ k = 1 ∨ k = 2) with rfl | rfl | rfl
      · have HE : Hid (bits .or .i64 (y : Int) (wrap64 (wrap64 ((Hm.odd (x &&& z) : Nat) : Int))) = ((y ||| Hm.odd (x &&& z) * 2 ^ 0 : Nat) : Int)) := or_at0 y _ HY.out hod
        clear hod
        go_wp2_with fail
        refine (HT.out _).mono ?_; rintro e w' ⟨rfl, rfl⟩
        go_wp2_with fail
        refine (HO.out _).mono ?_; rintro e w' ⟨rfl, rfl⟩
        go_wp2
        exact ⟨⟨1, by omega, rfl, by rw [HE.out]; exact congrArg (fun n : Nat => Value.int .i64 (n : Int)) HN.out⟩, by simp [intOf]⟩
      · have HE : Hid (bits .or .i64 (y : Int) (wrap64 (wrap64 ((Hm.odd (x &&& z) : Nat) : Int) * 2)) = ((y ||| Hm.odd (x &&& z) * 2 ^ 1 : Nat) : Int)) := or_at y _ 2 HY.out hod (by omega)
        clear hod
        go_wp2_with fail
        refine (HT.out _).mono ?_; rintro e w' ⟨rfl, rfl⟩
        go_wp2_with fail
        refine (HO.out _).mono ?_; rintro e w' ⟨rfl, rfl⟩
        go_wp2
        exact ⟨⟨2, by omega, rfl, by rw [HE.out]; exact congrArg (fun n : Nat => Value.int .i64 (n : Int)) HN.out⟩, by simp [intOf]⟩
      · have HE : Hid (bits .or .i64 (y : Int) (wrap64 (wrap64 ((Hm.odd (x &&& z) : Nat) : Int) * 4)) = ((y ||| Hm.odd (x &&& z) * 2 ^ 2 : Nat) : Int)) := or_at y _ 4 HY.out hod (by omega)
        clear hod
        go_wp2_with fail
        refine (HT.out _).mono ?_; rintro e w' ⟨rfl, rfl⟩
        go_wp2_with fail
        refine (HO.out _).mono ?_; rintro e w' ⟨rfl, rfl⟩
        go_wp2
        exact ⟨⟨3, by omega, rfl, by rw [HE.out]; exact congrArg (fun n : Nat => Value.int .i64 (n : Int)) HN.out⟩, by simp [intOf]⟩
    · obtain rfl : k = 3 := by omega
      have hy8 : Hm.at_ x 3 < 8 := Hm.at_lt ⟨x, hx⟩ 3
      have ho2 := Hm.odd_lt x
      have hun : Hm.half x = if Hm.at_ x 3 = 0 ∧ Hm.odd x = 0 then (Hm.ga x 4, 0, 0) else if Hm.odd x = 0 then (0, 0, 100) else (Hm.ga (x ^^^ 2 ^ Hm.at_ x 3) 4, 1, 0) := rfl
      have HG1 := hide (gathered_any x hx)
      have HG2 := hide (fun h W => gathered_any (x ^^^ 2 ^ Hm.at_ x 3) h W)
      have HXX := hide hx
      obtain ⟨y, hy⟩ : ∃ y, y = Hm.at_ x 3 := ⟨_, rfl⟩
      rw [← hy] at hy8 hun HG2 ⊢
      clear hy
      by_cases ho : Hm.odd x = 0
      · rw [ho] at HX hun
        by_cases hy0 : y = 0
        · subst hy0
          rw [if_pos ⟨rfl, rfl⟩] at hun
          have HU := hide hun
          clear hun ho ho2 hy8
          go_wp2_with fail
          refine (HX.out _).mono ?_; rintro e w' ⟨rfl, rfl⟩
          go_wp2_with fail
          refine (HG1.out _).mono ?_; rintro e w' ⟨rfl, rfl⟩
          go_wp2
          go_ret3
          rw [HU.out]
          exact ⟨rfl, rfl⟩
        · rw [if_neg (fun h => hy0 h.1), if_pos rfl] at hun
          have HU := hide hun
          have ht : ((y : Int) == 0) = false := by simp; omega
          clear hun ho ho2 hy8 hy0
          go_wp2_with fail
          refine (HX.out _).mono ?_; rintro e w' ⟨rfl, rfl⟩
          go_wp2
          go_ret3
          rw [HU.out]
          exact ⟨rfl, rfl⟩
      · have ho1 : Hm.odd x = 1 := by omega
        rw [if_neg (fun h => ho h.2), if_neg ho] at hun
        rw [ho1] at HX
        have HU := hide hun
        clear hun ho ho1 ho2
        have hb : x ^^^ 2 ^ y < 256 := Nat.xor_lt_two_pow (n := 8) hx (Nat.pow_lt_pow_right (by omega) hy8)
        have HG := hide (HG2.out hb)
        have HE1 : Hid (bits .xor .u8 (x : Int) (2 ^ y % 256) = ((x ^^^ 2 ^ y : Nat) : Int)) := xor_pow x y hx hy8
        by_cases hy0 : y = 0
        · subst hy0
          have HE : Hid (bits .xor .u8 (x : Int) 1 = ((x ^^^ 2 ^ 0 : Nat) : Int)) := HE1.out
          clear hb HE1 hy8
          go_wp2_with fail
          refine (HX.out _).mono ?_; rintro e w' ⟨rfl, rfl⟩
          go_wp2_with fail
          rw [HE.out]
          refine (HG.out _).mono ?_; rintro e w' ⟨rfl, rfl⟩
          go_wp2
          go_ret3
          rw [HU.out]
          exact ⟨rfl, rfl⟩
        · have ht : ((y : Int) == 0) = false := by simp; omega
          clear hb hy0
          go_wp2_with fail
          refine (HX.out _).mono ?_; rintro e w' ⟨rfl, rfl⟩
          go_wp2_with fail
          rw [HE1.out]
          refine (HG.out _).mono ?_; rintro e w' ⟨rfl, rfl⟩
          go_wp2
          go_ret3
          rw [HU.out]
          exact ⟨rfl, rfl⟩
theorem num10 (k : Int) (w : World) : Calls Try.prog 11 #[.int .i64 k] w fun e w' => e = .returned (.int .i64 k) ∧ w = w' := by
  go_enter Try.func11, Try.ntmps11
  go_wp2
  go_ret
  exact ⟨rfl, rfl⟩
end Go.Proofs.Ytnoefbmdpbljhaa
