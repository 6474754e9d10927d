/- Layer 10's reference: Word, Apart, Half, by what they compute. No conditions. -/
import Derived.Test.YtnoefbmdpbljhaaHamB
namespace Go.Proofs.Ytnoefbmdpbljhaa
open Go.RowKit
set_option linter.unusedVariables false

set_option maxHeartbeats 1000000 in
theorem rword_any (x : Nat) (hx : x < 16) (w : World) : Calls Try.prog 12 #[.int .i64 (x : Int)] w fun e w' => e = .returned (.int .i64 (Hm.rword x : Nat)) ∧ w = w' := by
  have b0 := hide (fun W => bit_any x 0 (by omega) (by omega) W)
  have b1 := hide (fun W => bit_any x 1 (by omega) (by omega) W)
  have b2 := hide (fun W => bit_any x 2 (by omega) (by omega) W)
  have b3 := hide (fun W => bit_any x 3 (by omega) (by omega) W)
  have hr : Hm.rword x = (let a := Hm.bit x 0; let b := Hm.bit x 1; let c := Hm.bit x 2; let d := Hm.bit x 3
    let one := (a + b + d) % 2; let two := (a + c + d) % 2; let four := (b + c + d) % 2
    let all := (a + b + c + d + one + two + four) % 2
    all + 2 * one + 4 * two + 8 * a + 16 * four + 32 * b + 64 * c + 128 * d) := rfl
  have l0 : Hm.bit x 0 < 2 := Nat.mod_lt _ (by omega)
  have l1 : Hm.bit x 1 < 2 := Nat.mod_lt _ (by omega)
  have l2 : Hm.bit x 2 < 2 := Nat.mod_lt _ (by omega)
  have l3 : Hm.bit x 3 < 2 := Nat.mod_lt _ (by omega)
  obtain ⟨a, ha⟩ : ∃ a, a = Hm.bit x 0 := ⟨_, rfl⟩
  obtain ⟨b, hb⟩ : ∃ a, a = Hm.bit x 1 := ⟨_, rfl⟩
  obtain ⟨c, hc⟩ : ∃ a, a = Hm.bit x 2 := ⟨_, rfl⟩
  obtain ⟨d, hd⟩ : ∃ a, a = Hm.bit x 3 := ⟨_, rfl⟩
  rw [← ha] at l0 b0
  rw [← hb] at l1 b1
  rw [← hc] at l2 b2
  rw [← hd] at l3 b3
  rw [← ha, ← hb, ← hc, ← hd] at hr
  have HR := hide hr
  clear ha hb hc hd hr
  rcases (by omega : a = 0 ∨ a = 1) with rfl | rfl <;> rcases (by omega : b = 0 ∨ b = 1) with rfl | rfl <;> rcases (by omega : c = 0 ∨ c = 1) with rfl | rfl <;> rcases (by omega : d = 0 ∨ d = 1) with rfl | rfl
  all_goals
    clear l0 l1 l2 l3
    go_enter Try.func12, Try.ntmps12
    go_wp2_with fail
    refine (b0.out _).mono ?_; rintro e w' ⟨rfl, rfl⟩
    go_wp2_with fail
    refine (b1.out _).mono ?_; rintro e w' ⟨rfl, rfl⟩
    go_wp2_with fail
    refine (b2.out _).mono ?_; rintro e w' ⟨rfl, rfl⟩
    go_wp2_with fail
    refine (b3.out _).mono ?_; rintro e w' ⟨rfl, rfl⟩
    go_wp2
    go_ret
    rw [HR.out]
    exact ⟨rfl, rfl⟩
theorem rapart_any (a b : Nat) (ha : a < 256) (hb : b < 256) (w : World) : Calls Try.prog 16 #[.int .i64 (a : Int), .int .i64 (b : Int)] w fun e w' => e = .returned (.int .i64 (Hm.rapart a b : Nat)) ∧ w = w' := by
  have B1 := hide (fun k (h : k < 8) W => bit_any a k (by omega) (by omega) W)
  have B2 := hide (fun k (h : k < 8) W => bit_any b k (by omega) (by omega) W)
  go_enter Try.func16, Try.ntmps16
  go_wp2
  go_loop [5, 6] (fun v i => ∃ k : Nat, k ≤ 8 ∧ i = .int .i64 k ∧ ∃ m : Nat, m ≤ k ∧ Hid (m = Hm.ra a b k) ∧ v = .int .i64 m) (fun _ i => 8 - (intOf i).toNat)
  case atStart => exact ⟨0, by omega, rfl, 0, by omega, rfl, rfl⟩
  case round =>
    obtain ⟨k, hk, rfl, m, hm, hmr, rfl⟩ := hrel
    by_cases hlt : k < 8
    · have C1 := hide (B1.out k hlt)
      have C2 := hide (B2.out k hlt)
      obtain ⟨u, hu⟩ : ∃ u, u = Hm.bit a k := ⟨_, rfl⟩
      obtain ⟨v, hv⟩ : ∃ v, v = Hm.bit b k := ⟨_, rfl⟩
      have HN : Hid (Hm.ra a b (k + 1) = m + (if u = v then 0 else 1)) := by subst hu hv; show Hm.ra a b k + _ = _; rw [hmr.out]
      rw [← hu] at C1
      rw [← hv] at C2
      clear hu hv
      by_cases huv : u = v
      · subst huv
        have ht : ((u : Int) != (u : Int)) = false := by simp
        go_wp2_with fail
        refine (C1.out _).mono ?_; rintro e w' ⟨rfl, rfl⟩
        go_wp2_with fail
        refine (C2.out _).mono ?_; rintro e w' ⟨rfl, rfl⟩
        go_wp2
        go_round
        case rel => exact ⟨k + 1, by omega, by go_num, m, by omega, by show m = _; rw [HN.out]; simp, rfl⟩
        case measure => simp [intOf]; omega
      · have ht : ((u : Int) != (v : Int)) = true := by simp; omega
        have HN2 : Hid (Hm.ra a b (k + 1) = m + 1) := by have h := HN.out; rw [if_neg huv] at h; exact h
        clear huv
        go_wp2_with fail
        refine (C1.out _).mono ?_; rintro e w' ⟨rfl, rfl⟩
        go_wp2_with fail
        refine (C2.out _).mono ?_; rintro e w' ⟨rfl, rfl⟩
        go_wp2
        go_round
        case rel => exact ⟨k + 1, by omega, by go_num, m + 1, by omega, HN2.out.symm, by go_num⟩
        case measure => simp [intOf]; omega
    · obtain rfl : k = 8 := by omega
      go_wp2
      go_ret
      refine ⟨?_, rfl⟩
      unfold Hm.rapart
      rw [← hmr.out]
      rfl
theorem rhalf_any (x : Nat) (hx : x < 256) (w : World) : Calls Try.prog 14 #[.int .i64 (x : Int)] w fun e w' => e = .returned (.tuple #[.int .i64 ((Hm.rhalf x).1 : Nat), .int .i64 ((Hm.rhalf x).2.1 : Nat), .int .i64 ((Hm.rhalf x).2.2 : Nat)]) ∧ w = w' := by
  go_enter Try.func14, Try.ntmps14
  go_wp2
  go_loop [5] (fun i => ∃ k : Nat, k ≤ 16 ∧ i = .int .i64 k ∧ Hid (Hm.rhalf x = Hm.rhalfFrom x k (16 - k))) (fun i => 16 - (intOf i).toNat)
  case atStart => exact ⟨0, by omega, rfl, rfl⟩
  case round =>
    obtain ⟨k, hk, rfl, hr⟩ := hrel
    by_cases hlt : k < 16
    · have C1 := hide (fun W => rword_any k hlt W)
      have hw : Hm.rword k < 256 := Hm.rword_lt ⟨k, hlt⟩
      have C2 := hide (fun W => rapart_any (Hm.rword k) x hw hx W)
      have hstep : Hm.rhalfFrom x k (16 - k) = if Hm.rapart (Hm.rword k) x ≤ 1 then (k, Hm.rapart (Hm.rword k) x, 0) else Hm.rhalfFrom x (k + 1) (16 - (k + 1)) := by
        rw [show 16 - k = (16 - (k + 1)) + 1 by omega]; rfl
      have HS : Hid (Hm.rhalf x = if Hm.rapart (Hm.rword k) x ≤ 1 then (k, Hm.rapart (Hm.rword k) x, 0) else Hm.rhalfFrom x (k + 1) (16 - (k + 1))) := hr.out.trans hstep
      obtain ⟨m, hm⟩ : ∃ m, m = Hm.rapart (Hm.rword k) x := ⟨_, rfl⟩
      rw [← hm] at C2 HS
      clear hm hw hr hstep
      by_cases h1 : m ≤ 1
      · have HF : Hid (Hm.rhalf x = (k, m, 0)) := by have h := HS.out; rw [if_pos h1] at h; exact h
        have hm1 : (m : Int) ≤ 1 := by omega
        clear h1 HS
        go_wp2_with fail
        refine (C1.out _).mono ?_; rintro e w' ⟨rfl, rfl⟩
        go_wp2_with fail
        refine (C2.out _).mono ?_; rintro e w' ⟨rfl, rfl⟩
        go_wp2
        go_ret3
        rw [HF.out]
        exact ⟨rfl, rfl⟩
      · have HF : Hid (Hm.rhalf x = Hm.rhalfFrom x (k + 1) (16 - (k + 1))) := by have h := HS.out; rw [if_neg h1] at h; exact h
        have hm1 : ¬ (m : Int) ≤ 1 := by omega
        clear h1 HS
        go_wp2_with fail
        refine (C1.out _).mono ?_; rintro e w' ⟨rfl, rfl⟩
        go_wp2_with fail
        refine (C2.out _).mono ?_; rintro e w' ⟨rfl, rfl⟩
        go_wp2
        go_round
        case rel => exact ⟨k + 1, by omega, by go_num, HF⟩
        case measure => simp [intOf]; omega
    · obtain rfl : k = 16 := by omega
      go_wp2
      go_ret3
      rw [hr.out]
      exact ⟨rfl, rfl⟩
end Go.Proofs.Ytnoefbmdpbljhaa
