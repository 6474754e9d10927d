/- The laws ScramSteps and ScramStreams, walked: each returns true and turns nothing that was there. No conditions. -/
import Derived.Test.YtcbbnddhihmafaaScrE
import Derived.Test.YtcbbnddhihmafaaIn
namespace Go.Proofs.Ytcbbnddhihmafaa
open Go.RowKit
set_option linter.unusedVariables false

theorem step_a (w : World) : Calls Try.prog 16 #[.int .i64 16384] w fun e w' => e = .returned (.tuple #[.int .i64 1, .int .i64 1]) ∧ w = w' := step_any 16384 w
theorem step_b (w : World) : Calls Try.prog 16 #[.int .i64 1] w fun e w' => e = .returned (.tuple #[.int .i64 0, .int .i64 2]) ∧ w = w' := step_any 1 w
theorem stream_a (w : World) : Calls Try.prog 22 #[.int .i64 5, .int .i64 3] w fun e w' => ∃ g, e = .returned (.slice (some ⟨g, 0, none⟩) 3 3) ∧ Below w.heap.size w w' :=
  (stream_any 5 3 (by omega) w).mono fun _ _ ⟨g, he, _, hb⟩ => ⟨g, he, hb⟩

theorem live09 (w : World) : Calls Try.prog 15 #[] w fun e w' => e = .returned (.bool true) ∧ Below w.heap.size w w' := by
  go_enter Try.func15, Try.ntmps15
  go_wp2_with fail
  refine (step_a _).mono ?_; rintro e w' ⟨rfl, rfl⟩
  go_wp2_with fail
  refine (step_b _).mono ?_; rintro e w' ⟨rfl, rfl⟩
  go_wp2_with fail
  refine (stream_a _).mono ?_; rintro e w' ⟨g, rfl, hb⟩
  go_wp2
  go_ret
  exact ⟨rfl, hb⟩

theorem zero_own (s n : Int) : (((Sc.go (Sc.cnt n) (Sc.own s) : Nat) : Int) == 0) = (((Sc.own s : Nat) : Int) == 0) := by
  have h := Sc.go_zero (Sc.cnt n) (Sc.own s) (Sc.own_lt s)
  rw [Bool.eq_iff_iff]
  simp only [beq_iff_eq]
  omega

theorem walk_ScramSteps (w : World) (s : Int) (hs : Fit s) (n : Int) (hn : Fit n) : Calls Try.prog 3 #[.int .i64 s, .int .i64 n] w fun e w' => e = .returned (.bool true) ∧ Below w.heap.size w w' := by
  obtain ⟨hn1, hn2⟩ := hn
  clear hs
  have HZ := hide (zero_own s n)
  by_cases hmid : 300 < n ∧ n < 32768
  · obtain ⟨h1, h2⟩ := hmid
    go_enter Try.func3, Try.ntmps3
    go_wp2_with (go_at_call 15; refine (live09 _).mono ?_; rintro e w' ⟨rfl, hb⟩)
    go_ret
    exact ⟨rfl, hb⟩
  · rcases (show n ≤ 300 ∨ (300 < n ∧ 32768 ≤ n) by omega) with h | ⟨h, h'⟩
    all_goals
      clear hmid
      go_enter Try.func3, Try.ntmps3
      go_wp2_with fail
      refine (step_any _ _).mono ?_; rintro e w' ⟨rfl, rfl⟩
      go_wp2_with fail
      refine (rstep_any _ _).mono ?_; rintro e w' ⟨rfl, rfl⟩
      go_wp2_with fail
      refine (state_any _ _ _).mono ?_; rintro e w' ⟨rfl, rfl⟩
      go_wp2_with fail
      refine (rstate_any _ _ _).mono ?_; rintro e w' ⟨rfl, rfl⟩
      go_wp2_with fail
      refine (rown_any _ _).mono ?_; rintro e w' ⟨rfl, rfl⟩
      have hz := HZ.out
      go_wp2_with fail
      refine (live09 _).mono ?_; rintro e w' ⟨rfl, hb⟩
      go_wp2
      go_ret
      exact ⟨rfl, hb⟩
end Go.Proofs.Ytcbbnddhihmafaa
