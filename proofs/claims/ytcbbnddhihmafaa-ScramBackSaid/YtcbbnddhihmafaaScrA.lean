/- The functions of layer 9 (scram and its reference), each by what it computes: own, Step, State. No conditions. -/
import Derived.Test.YtcbbnddhihmafaaBase
import Derived.Test.YtcbbnddhihmafaaRows
import Derived.Test.YtcbbnddhihmafaaP9
namespace Go.Proofs.Ytcbbnddhihmafaa
open Go.RowKit

theorem tmod_own (s : Int) : (s.tmod 32768 + 32768) % 32768 = ((Sc.own s : Nat) : Int) := by
  unfold Sc.own
  have h1 := Int.tmod_eq_emod (a := s) (b := 32768)
  split at h1 <;> omega

theorem tmod_bd (s : Int) : -32768 < s.tmod 32768 ∧ s.tmod 32768 < 32768 := by
  have h1 := Int.tmod_eq_emod (a := s) (b := 32768)
  split at h1 <;> omega

/-- scram.own -/
theorem own_any (s : Int) (w : World) : Calls Try.prog 58 #[.int .i64 s] w fun e w' => e = .returned (.int .i64 ((Sc.own s : Nat) : Int)) ∧ w = w' := by
  have hb := tmod_bd s
  obtain ⟨hb1, hb2⟩ := hb
  have he := hide (tmod_own s)
  go_enter Try.func58, Try.ntmps58
  go_wp2
  go_ret
  exact ⟨by rw [← he.out]; rfl, rfl⟩

theorem bit_go (n : Nat) (h : n < 32768) : bits .and .i64 (bits .xor .i64 ((n : Int) / 16384) ((n : Int) / 8192)) 1 = ((Sc.stepB n : Nat) : Int) := by
  have e1 : (n : Int) / 16384 = ((n / 16384 : Nat) : Int) := by omega
  have e2 : (n : Int) / 8192 = ((n / 8192 : Nat) : Int) := by omega
  rw [e1, e2, xor64 _ _ (by omega) (by omega)]
  have hx : n / 16384 ^^^ n / 8192 < 2 ^ 15 := Nat.xor_lt_two_pow (by omega) (by omega)
  have := and64 (n / 16384 ^^^ n / 8192) 1 (by omega) (by omega)
  rw [show ((1 : Nat) : Int) = 1 from rfl] at this
  rw [this, Nat.and_one_is_mod, Sc.bit_eq]
theorem next_go (n : Nat) (h : n < 32768) : bits .and .i64 (bits .or .i64 ((n : Int) * 2) ((Sc.stepB n : Nat) : Int)) 32767 = ((Sc.stepN n : Nat) : Int) := by
  have e1 : (n : Int) * 2 = ((2 * n : Nat) : Int) := by omega
  have hb := Sc.stepB_lt n
  rw [e1, or64 _ _ (by omega) (by omega)]
  have hx : 2 * n ||| Sc.stepB n < 2 ^ 16 := Nat.or_lt_two_pow (by omega) (by omega)
  have := and64 (2 * n ||| Sc.stepB n) 32767 (by omega) (by omega)
  rw [show ((32767 : Nat) : Int) = 32767 from rfl] at this
  rw [this, nat_mask15, Sc.next_eq]

/-- scram.Step -/
theorem step_any (s : Int) (w : World) : Calls Try.prog 16 #[.int .i64 s] w fun e w' =>
    e = .returned (.tuple #[.int .i64 ((Sc.stepB (Sc.own s) : Nat) : Int), .int .i64 ((Sc.stepN (Sc.own s) : Nat) : Int)]) ∧ w = w' := by
  have hl := Sc.own_lt s
  have h1 := hide (bit_go _ hl)
  have h2 := hide (next_go _ hl)
  go_enter Try.func16, Try.ntmps16
  go_wp2_with (go_at_call 58; refine (own_any _ _).mono ?_; rintro e w' ⟨rfl, rfl⟩)
  go_ret2
  refine ⟨?_, rfl⟩
  rw [← h2.out, ← h1.out]
  rfl

/-- the reference's Own -/
theorem rown_any (s : Int) (w : World) : Calls Try.prog 20 #[.int .i64 s] w fun e w' => e = .returned (.int .i64 ((Sc.own s : Nat) : Int)) ∧ w = w' := by
  have hb := tmod_bd s
  obtain ⟨hb1, hb2⟩ := hb
  have he : Hid ((s.tmod 32768 + 32768) % 32768 = ((Sc.own s : Nat) : Int)) := tmod_own s
  by_cases hn : s.tmod 32768 < 0
  · go_enter Try.func20, Try.ntmps20
    go_wp2
    go_ret
    refine ⟨?_, rfl⟩
    rw [← he.out, Int.emod_eq_of_lt (by omega) (by omega)]
    rfl
  · go_enter Try.func20, Try.ntmps20
    go_wp2
    go_ret
    refine ⟨?_, rfl⟩
    rw [← he.out, show (s.tmod 32768 + 32768) % 32768 = s.tmod 32768 by omega]
    rfl

/-- the reference's Step -/
theorem rstep_any (s : Int) (w : World) : Calls Try.prog 17 #[.int .i64 s] w fun e w' =>
    e = .returned (.tuple #[.int .i64 ((Sc.stepB (Sc.own s) : Nat) : Int), .int .i64 ((Sc.stepN (Sc.own s) : Nat) : Int)]) ∧ w = w' := by
  have hl := Sc.own_lt s
  have e1 : Hid ((((Sc.own s : Nat) : Int) / 16384 + ((Sc.own s : Nat) : Int) / 8192) % 2 = ((Sc.stepB (Sc.own s) : Nat) : Int)) := by show _ = _; unfold Sc.stepB; omega
  have e2 : Hid ((2 * ((Sc.own s : Nat) : Int) + ((Sc.stepB (Sc.own s) : Nat) : Int)) % 32768 = ((Sc.stepN (Sc.own s) : Nat) : Int)) := by show _ = _; unfold Sc.stepN; omega
  go_enter Try.func17, Try.ntmps17
  go_wp2_with (go_at_call 20; refine (rown_any _ _).mono ?_; rintro e w' ⟨rfl, rfl⟩)
  go_ret2
  refine ⟨?_, rfl⟩
  rw [← e2.out, ← e1.out]
  rfl
end Go.Proofs.Ytcbbnddhihmafaa
