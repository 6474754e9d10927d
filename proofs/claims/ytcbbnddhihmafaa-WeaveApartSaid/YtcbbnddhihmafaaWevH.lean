/- The law WeaveApart, walked: it returns true and turns nothing that was there. No conditions. -/
import Derived.Test.YtcbbnddhihmafaaWevF
namespace Go.Proofs.Ytcbbnddhihmafaa
open Go.RowKit
set_option linter.unusedVariables false

set_option maxHeartbeats 2000000 in
theorem apart_no (w : World) (c r k o : Int) (h : c < 1 ∨ (1 ≤ c ∧ 100 < c) ∨ (1 ≤ c ∧ c ≤ 100 ∧ r < 1) ∨ (1 ≤ c ∧ c ≤ 100 ∧ 1 ≤ r ∧ 64 < r) ∨ (1 ≤ c ∧ c ≤ 100 ∧ 1 ≤ r ∧ r ≤ 64 ∧ k < 0) ∨ (1 ≤ c ∧ c ≤ 100 ∧ 1 ≤ r ∧ r ≤ 64 ∧ 0 ≤ k ∧ o < 1) ∨
      (1 ≤ c ∧ c ≤ 100 ∧ 1 ≤ r ∧ r ≤ 64 ∧ 0 ≤ k ∧ 1 ≤ o ∧ r ≤ o)) :
    Calls Try.prog 6 #[.agg #[.int .i64 c, .int .i64 r, .int .i64 k, .int .i64 o]] w fun e w' => e = .returned (.bool true) ∧ Below w.heap.size w w' := by
  have HB0 := hide ((Below.refl w.heap.size w).alloc (Nat.le_refl _) (.cells #[.int .i64 c, .int .i64 r, .int .i64 k, .int .i64 o] 37)).drew
  rcases h with h1 | ⟨h1, h2⟩ | ⟨h1, h2, h3⟩ | ⟨h1, h2, h3, h4⟩ | ⟨h1, h2, h3, h4, h5⟩ | ⟨h1, h2, h3, h4, h5, h6⟩ | ⟨h1, h2, h3, h4, h5, h6, h7⟩
  all_goals
    go_enter Try.func6, Try.ntmps6
    go_wp2
    go_region
    go_wp2_with fail
    refine (live11 _).mono ?_; rintro e w7 ⟨rfl, hb7⟩
    go_wp2
    go_ret
    exact ⟨rfl, below2 HB0.out hb7 (Nat.le_refl _)⟩

set_option maxHeartbeats 400000 in
theorem apart_over (w : World) (c r k o : Nat) (h1 : 1 ≤ (c : Int)) (h2 : (c : Int) ≤ 100) (h3 : 1 ≤ (r : Int)) (h4 : (r : Int) ≤ 64) (h6 : 1 ≤ (o : Int)) (h7 : (o : Int) < (r : Int)) (hk : c * r < k) :
    Calls Try.prog 6 #[.agg #[.int .i64 (c : Int), .int .i64 (r : Int), .int .i64 (k : Int), .int .i64 (o : Int)]] w fun e w' => e = .returned (.bool true) ∧ Below w.heap.size w w' := by
  have HB0 := hide ((Below.refl w.heap.size w).alloc (Nat.le_refl _) (.cells #[.int .i64 (c : Int), .int .i64 (r : Int), .int .i64 (k : Int), .int .i64 (o : Int)] 37)).drew
  have e : (c : Int) * (r : Int) = ((c * r : Nat) : Int) := by rw [Int.natCast_mul]
  have hb : c * r ≤ 100 * 64 := Nat.mul_le_mul (by omega) (by omega)
  have hm1 : 0 ≤ (c : Int) * (r : Int) := by rw [e]; omega
  have hm2 : (c : Int) * (r : Int) ≤ 6400 := by rw [e]; omega
  have hm3 : (c : Int) * (r : Int) < (k : Int) := by rw [e]; omega
  clear hb e hk
  go_enter Try.func6, Try.ntmps6
  go_wp2
  go_region
  go_wp2_with fail
  refine (live11 _).mono ?_; rintro e w7 ⟨rfl, hb7⟩
  go_wp2
  go_ret
  exact ⟨rfl, below2 HB0.out hb7 (Nat.le_refl _)⟩

set_option maxHeartbeats 800000 in
theorem apart_in (w : World) (c r k o : Nat) (h1 : 1 ≤ (c : Int)) (h2 : (c : Int) ≤ 100) (h3 : 1 ≤ (r : Int)) (h4 : (r : Int) ≤ 64) (h6 : 1 ≤ (o : Int)) (h7 : (o : Int) < (r : Int)) (hk : k ≤ c * r) :
    Calls Try.prog 6 #[.agg #[.int .i64 (c : Int), .int .i64 (r : Int), .int .i64 (k : Int), .int .i64 (o : Int)]] w fun e w' => e = .returned (.bool true) ∧ Below w.heap.size w w' := by
  have HB0 := hide ((Below.refl w.heap.size w).alloc (Nat.le_refl _) (.cells #[.int .i64 (c : Int), .int .i64 (r : Int), .int .i64 (k : Int), .int .i64 (o : Int)] 37)).drew
  have e : (c : Int) * (r : Int) = ((c * r : Nat) : Int) := by rw [Int.natCast_mul]
  have hb : c * r ≤ 100 * 64 := Nat.mul_le_mul (by omega) (by omega)
  have hm1 : 0 ≤ (c : Int) * (r : Int) := by rw [e]; omega
  have hm2 : (c : Int) * (r : Int) ≤ 6400 := by rw [e]; omega
  have hm3 : (k : Int) ≤ (c : Int) * (r : Int) := by rw [e]; omega
  have HE := hide e
  have HB := hide hb
  have HK := hide hk
  clear hb e hk
  by_cases hlt : k < c * r
  · have hm4 : (k : Int) < (c : Int) * (r : Int) := by rw [HE.out]; omega
    have HP1 := hide (fun W => place_yes (c * r) r k (by have := HB.out; omega) (by omega) (by omega) hlt W)
    have hlo1 := We.ord_lt (c * r) r (by omega) k hlt
    by_cases hlt2 : k + o < c * r
    · have hm5 : (k : Int) + (o : Int) < (c : Int) * (r : Int) := by rw [HE.out]; omega
      have hl1 := We.length_ord (c * r) r (by omega)
      have hap := We.apart c r k o (by omega) (by omega) hlt2 ((We.ord (c * r) r).getD k 0) ((We.ord (c * r) r).getD (k + o) 0) (getD_of (by omega)) (getD_of (by omega))
      have hlo2 := We.ord_lt (c * r) r (by omega) (k + o) hlt2
      have HP2 := hide (fun W => place_yes (c * r) r (k + o) (by have := HB.out; omega) (by omega) (by omega) hlt2 W)
      obtain ⟨x, hx⟩ : ∃ x, x = (We.ord (c * r) r).getD k 0 := ⟨_, rfl⟩
      obtain ⟨y, hy⟩ : ∃ y, y = (We.ord (c * r) r).getD (k + o) 0 := ⟨_, rfl⟩
      rw [← hx] at hap HP1 hlo1
      rw [← hy] at hap HP2 hlo2
      rw [Int.natCast_mul] at HP1 HP2
      rw [Int.natCast_add] at HP2
      have hx1 : (x : Int) ≤ 6400 := by have := HB.out; omega
      have hy1 : (y : Int) ≤ 6400 := by have := HB.out; omega
      clear hx hy hl1 hlt hlt2 hlo1 hlo2
      by_cases h8 : (c : Int) - 1 ≤ (x : Int) - (y : Int)
      · clear hap
        go_enter Try.func6, Try.ntmps6
        go_wp2
        go_region
        go_wp2_with fail
        refine (HP1.out _).mono ?_; rintro e w1 ⟨rfl, hb1⟩
        go_wp2_with fail
        refine (HP2.out _).mono ?_; rintro e w2 ⟨rfl, hb2⟩
        go_wp2_with fail
        refine (live11 _).mono ?_; rintro e w3 ⟨rfl, hb3⟩
        go_wp2
        go_ret
        exact ⟨rfl, below2 (below2 (below2 HB0.out hb1 (Nat.le_refl _)) hb2 (Nat.le_refl _)) hb3 (Nat.le_refl _)⟩
      · have h9 : (c : Int) - 1 ≤ (y : Int) - (x : Int) := by omega
        have h8' : (x : Int) - (y : Int) < (c : Int) - 1 := by omega
        clear hap h8
        go_enter Try.func6, Try.ntmps6
        go_wp2
        go_region
        go_wp2_with fail
        refine (HP1.out _).mono ?_; rintro e w1 ⟨rfl, hb1⟩
        go_wp2_with fail
        refine (HP2.out _).mono ?_; rintro e w2 ⟨rfl, hb2⟩
        go_wp2_with fail
        refine (live11 _).mono ?_; rintro e w3 ⟨rfl, hb3⟩
        go_wp2
        go_ret
        exact ⟨rfl, below2 (below2 (below2 HB0.out hb1 (Nat.le_refl _)) hb2 (Nat.le_refl _)) hb3 (Nat.le_refl _)⟩
    · have hm5 : (c : Int) * (r : Int) ≤ (k : Int) + (o : Int) := by rw [HE.out]; omega
      obtain ⟨x, hx⟩ : ∃ x, x = (We.ord (c * r) r).getD k 0 := ⟨_, rfl⟩
      rw [← hx] at HP1
      rw [Int.natCast_mul] at HP1
      have HNO := hide (fun W => place_no ((c : Int) * (r : Int)) r ((k : Int) + (o : Int)) (by omega) W)
      clear hx hlt hlt2 hlo1
      go_enter Try.func6, Try.ntmps6
      go_wp2
      go_region
      go_wp2_with fail
      refine (HP1.out _).mono ?_; rintro e w1 ⟨rfl, hb1⟩
      go_wp2_with fail
      refine (HNO.out _).mono ?_; rintro e w2 ⟨rfl, rfl⟩
      go_wp2_with fail
      refine (live11 _).mono ?_; rintro e w3 ⟨rfl, hb3⟩
      go_wp2
      go_ret
      exact ⟨rfl, below2 (below2 HB0.out hb1 (Nat.le_refl _)) hb3 (Nat.le_refl _)⟩
  · have hm4 : (c : Int) * (r : Int) ≤ (k : Int) := by rw [HE.out]; omega
    have HN1 := hide (fun W => place_no ((c : Int) * (r : Int)) r (k : Int) (by omega) W)
    have HN2 := hide (fun W => place_no ((c : Int) * (r : Int)) r ((k : Int) + (o : Int)) (by omega) W)
    have hm5 : (c : Int) * (r : Int) ≤ (k : Int) + (o : Int) := by omega
    clear hlt
    go_enter Try.func6, Try.ntmps6
    go_wp2
    go_region
    go_wp2_with fail
    refine (HN1.out _).mono ?_; rintro e w1 ⟨rfl, rfl⟩
    go_wp2_with fail
    refine (HN2.out _).mono ?_; rintro e w2 ⟨rfl, rfl⟩
    go_wp2_with fail
    refine (live11 _).mono ?_; rintro e w3 ⟨rfl, hb3⟩
    go_wp2
    go_ret
    exact ⟨rfl, below2 HB0.out hb3 (Nat.le_refl _)⟩

theorem walk_WeaveApart (w : World) (c r k o : Int) (hc : Fit c) (hr : Fit r) (hk : Fit k) (ho : Fit o) :
    Calls Try.prog 6 #[.agg #[.int .i64 c, .int .i64 r, .int .i64 k, .int .i64 o]] w fun e w' => e = .returned (.bool true) ∧ Below w.heap.size w w' := by
  by_cases hok : 1 ≤ c ∧ c ≤ 100 ∧ 1 ≤ r ∧ r ≤ 64 ∧ 0 ≤ k ∧ 1 ≤ o ∧ o < r
  · obtain ⟨h1, h2, h3, h4, h5, h6, h7⟩ := hok
    obtain ⟨c, rfl⟩ := Int.eq_ofNat_of_zero_le (show 0 ≤ c by omega)
    obtain ⟨r, rfl⟩ := Int.eq_ofNat_of_zero_le (show 0 ≤ r by omega)
    obtain ⟨k, rfl⟩ := Int.eq_ofNat_of_zero_le h5
    obtain ⟨o, rfl⟩ := Int.eq_ofNat_of_zero_le (show 0 ≤ o by omega)
    rcases Nat.lt_or_ge (c * r) k with h8 | h8
    · exact apart_over w c r k o h1 h2 h3 h4 h6 h7 h8
    · exact apart_in w c r k o h1 h2 h3 h4 h6 h7 h8
  · exact apart_no w c r k o (by omega)
end Go.Proofs.Ytcbbnddhihmafaa
