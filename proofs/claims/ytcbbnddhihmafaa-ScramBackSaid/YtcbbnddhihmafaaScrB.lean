/- The functions of layer 9 (scram and its reference), each by what it computes: State, octet. No conditions. -/
import Derived.Test.YtcbbnddhihmafaaScrA
namespace Go.Proofs.Ytcbbnddhihmafaa
open Go.RowKit

theorem own_nat (x : Nat) (h : x < 32768) : Sc.own (x : Int) = x := by unfold Sc.own; omega
theorem step_at (x : Nat) (h : x < 32768) (w : World) : Calls Try.prog 16 #[.int .i64 (x : Int)] w fun e w' =>
    e = .returned (.tuple #[.int .i64 ((Sc.stepB x : Nat) : Int), .int .i64 ((Sc.stepN x : Nat) : Int)]) ∧ w = w' := by
  have := step_any (x : Int) w
  rwa [own_nat x h] at this
theorem rstep_at (x : Nat) (h : x < 32768) (w : World) : Calls Try.prog 17 #[.int .i64 (x : Int)] w fun e w' =>
    e = .returned (.tuple #[.int .i64 ((Sc.stepB x : Nat) : Int), .int .i64 ((Sc.stepN x : Nat) : Int)]) ∧ w = w' := by
  have := rstep_any (x : Int) w
  rwa [own_nat x h] at this

/-- How many steps are gone: at most 32768. -/
def Sc.cnt (n : Int) : Nat := (min (max n 0) 32768).toNat

theorem cnt_of (n : Int) (k : Nat) (h1 : (k : Int) ≤ max n 0) (h2 : k ≤ 32768) (h : ¬ ((k : Int) < n ∧ k < 32768)) : k = Sc.cnt n := by unfold Sc.cnt; omega
theorem state_any (s : Int) (n : Int) (w : World) : Calls Try.prog 18 #[.int .i64 s, .int .i64 n] w fun e w' =>
    e = .returned (.int .i64 ((Sc.go (Sc.cnt n) (Sc.own s) : Nat) : Int)) ∧ w = w' := by
  have HL := hide (Sc.own_lt s)
  go_enter Try.func18, Try.ntmps18
  go_wp2_with (go_at_call 58; refine (own_any _ _).mono ?_; rintro e w' ⟨rfl, rfl⟩)
  all_goals
    go_loop [5, 11] (fun x i => ∃ k : Nat, (k : Int) ≤ max n 0 ∧ (k : Int) ≤ 32768 ∧ i = .int .i64 k ∧ x = .int .i64 ((Sc.go k (Sc.own s) : Nat) : Int)) (fun _ i => 32768 - (intOf i).toNat)
    case atStart => exact ⟨0, by omega, by omega, rfl, rfl⟩
    case round =>
      obtain ⟨k, hk1, hk, rfl, rfl⟩ := hrel
      have HG := hide (Sc.go_lt k (Sc.own s) HL.out)
      have HK := hide hk1
      clear hk1
      by_cases h1 : (k : Int) < n ∧ (k : Int) < 32768
      · obtain ⟨h1, h2⟩ := h1
        first
        | (exfalso; omega)
        | (go_wp2_with (go_at_call 16; refine (step_at _ HG.out _).mono ?_; rintro e w' ⟨rfl, rfl⟩)
           go_round
           case rel => exact ⟨k + 1, by omega, by omega, by go_num, rfl⟩
           case measure => simp [intOf]; omega)
      · have hc := hide (cnt_of n k HK.out (by omega) (by omega))
        have h2 : ¬ (k : Int) < n ∨ ¬ (k : Int) < 32768 := by omega
        clear h1
        rcases h2 with h2 | h2
        all_goals first
          | (exfalso; have HK' := HK.out; omega)
          | (have h3 : n ≤ (k : Int) := by omega
             clear h2 hk
             go_wp2
             go_ret
             exact ⟨by rw [← hc.out]; rfl, rfl⟩)
          | (clear hk
             go_wp2
             go_ret
             exact ⟨by rw [← hc.out]; rfl, rfl⟩)

/-- the reference's State -/
theorem rstate_any (s : Int) (n : Int) (w : World) : Calls Try.prog 19 #[.int .i64 s, .int .i64 n] w fun e w' =>
    e = .returned (.int .i64 ((Sc.go (Sc.cnt n) (Sc.own s) : Nat) : Int)) ∧ w = w' := by
  have HL := hide (Sc.own_lt s)
  go_enter Try.func19, Try.ntmps19
  go_wp2_with (go_at_call 20; refine (rown_any _ _).mono ?_; rintro e w' ⟨rfl, rfl⟩)
  go_loop [0, 5] (fun x i => ∃ k : Nat, (k : Int) ≤ max n 0 ∧ (k : Int) ≤ 32768 ∧ i = .int .i64 k ∧ x = .int .i64 ((Sc.go k (Sc.own s) : Nat) : Int)) (fun _ i => 32768 - (intOf i).toNat)
  case atStart => exact ⟨0, by omega, by omega, rfl, rfl⟩
  case round =>
    obtain ⟨k, hk1, hk, rfl, rfl⟩ := hrel
    have HG := hide (Sc.go_lt k (Sc.own s) HL.out)
    have HK := hide hk1
    clear hk1
    by_cases h1 : (k : Int) < n
    · by_cases h2 : (k : Int) < 32768
      · go_wp2_with (go_at_call 17; refine (rstep_at _ HG.out _).mono ?_; rintro e w' ⟨rfl, rfl⟩)
        go_round
        case rel => exact ⟨k + 1, by omega, by omega, by go_num, rfl⟩
        case measure => simp [intOf]; omega
      · have hc := hide (cnt_of n k HK.out (by omega) (by omega))
        go_wp2
        go_ret
        exact ⟨by rw [← hc.out]; rfl, rfl⟩
    · have hc := hide (cnt_of n k HK.out (by omega) (by omega))
      go_wp2
      go_ret
      exact ⟨by rw [← hc.out]; rfl, rfl⟩
end Go.Proofs.Ytcbbnddhihmafaa
