/- Layer 10: the laws HammingWords and HammingMends, walked. No conditions. -/
import Derived.Test.YteempadjldcmlaaHamD
namespace Go.Proofs.Yteempadjldcmlaa
open Go.RowKit
set_option linter.unusedVariables false

set_option maxRecDepth 100000 in
set_option maxHeartbeats 2000000 in
theorem walk_HammingWords (w : World) (h : Int) (hh : Fit h) (x : Nat) (hx : x < 256) (y : Nat) (hy : y < 256) :
    Calls Try.prog 3 #[.int .i64 h, .int .u8 (x : Int), .int .u8 (y : Int)] w fun e w' => e = .returned (.bool true) ∧ Below w.heap.size w w' := by
  have HH := hide (fun W => half_any x hx W)
  have HR := hide (fun W => rhalf_any x hx W)
  have e1 : Hm.half x = Hm.rhalf x := Hm.halves ⟨x, hx⟩
  rw [← e1] at HR
  have HA := hide (fun W => apart_at x y hx hy W)
  have HB := hide (fun W => rapart_any x y hx hy W)
  rw [← Hm.aparts x y hx hy] at HB
  obtain ⟨⟨p, q, r⟩, hp⟩ : ∃ p, p = Hm.half x := ⟨_, rfl⟩
  rw [← hp] at HH HR
  obtain ⟨u, hu⟩ : ∃ u, u = Hm.apart x y := ⟨_, rfl⟩
  rw [← hu] at HA HB
  clear e1 hp hu
  by_cases h0 : h < 0
  · have HW := hide (fun W => word_out h (.inl h0) W)
    clear hh
    go_enter Try.func3, Try.ntmps3
    go_wp2_with fail
    refine (HW.out _).mono ?_; rintro e w' ⟨rfl, rfl⟩
    go_wp2_with fail
    refine (num10 _ _).mono ?_; rintro e w' ⟨rfl, rfl⟩
    go_wp2_with fail
    refine (HH.out _).mono ?_; rintro e w' ⟨rfl, rfl⟩
    go_wp2_with fail
    refine (HR.out _).mono ?_; rintro e w' ⟨rfl, rfl⟩
    go_wp2_with fail
    refine (num10 _ _).mono ?_; rintro e w' ⟨rfl, rfl⟩
    go_wp2_with fail
    refine (HA.out _).mono ?_; rintro e w' ⟨rfl, rfl⟩
    go_wp2_with fail
    refine (HB.out _).mono ?_; rintro e w' ⟨rfl, rfl⟩
    go_wp2_with fail
    refine (live10 _).mono ?_; rintro e w' ⟨rfl, n7, rfl⟩
    go_wp2
    go_ret
    exact ⟨rfl, below_drews _ _⟩
  · by_cases h1 : 15 < h
    · have HW := hide (fun W => word_out h (.inr h1) W)
      clear hh h0
      have h0 : ¬ h < 0 := by omega
      go_enter Try.func3, Try.ntmps3
      go_wp2_with fail
      refine (HW.out _).mono ?_; rintro e w' ⟨rfl, rfl⟩
      go_wp2_with fail
      refine (num10 _ _).mono ?_; rintro e w' ⟨rfl, rfl⟩
      go_wp2_with fail
      refine (HH.out _).mono ?_; rintro e w' ⟨rfl, rfl⟩
      go_wp2_with fail
      refine (HR.out _).mono ?_; rintro e w' ⟨rfl, rfl⟩
      go_wp2_with fail
      refine (num10 _ _).mono ?_; rintro e w' ⟨rfl, rfl⟩
      go_wp2_with fail
      refine (HA.out _).mono ?_; rintro e w' ⟨rfl, rfl⟩
      go_wp2_with fail
      refine (HB.out _).mono ?_; rintro e w' ⟨rfl, rfl⟩
      go_wp2_with fail
      refine (live10 _).mono ?_; rintro e w' ⟨rfl, n7, rfl⟩
      go_wp2
      go_ret
      exact ⟨rfl, below_drews _ _⟩
    · obtain ⟨k, rfl⟩ := Int.eq_ofNat_of_zero_le (show 0 ≤ h by omega)
      have hk : k < 16 := by omega
      have HW := hide (fun W => word_in k hk W)
      have HV := hide (fun W => rword_any k hk W)
      have e2 : Hm.word k = Hm.rword k := Hm.words ⟨k, hk⟩
      have hl : Hm.word k < 256 := Hm.word_lt ⟨k, hk⟩
      rw [← e2] at HV
      obtain ⟨v, hv⟩ : ∃ v, v = Hm.word k := ⟨_, rfl⟩
      rw [← hv] at HW HV hl
      have ht : ((v : Int) != (v : Int)) = false := by simp
      have h2 : ¬ (15 : Int) < (k : Int) := by omega
      clear e2 hv h0 h1 hh hk
      go_enter Try.func3, Try.ntmps3
      go_wp2_with fail
      refine (HW.out _).mono ?_; rintro e w' ⟨rfl, n1, rfl⟩
      go_wp2_with fail
      refine (num10 _ _).mono ?_; rintro e w' ⟨rfl, rfl⟩
      go_wp2_with fail
      refine (HV.out _).mono ?_; rintro e w' ⟨rfl, rfl⟩
      go_wp2_with fail
      refine (HH.out _).mono ?_; rintro e w' ⟨rfl, rfl⟩
      go_wp2_with fail
      refine (HR.out _).mono ?_; rintro e w' ⟨rfl, rfl⟩
      go_wp2_with fail
      refine (num10 _ _).mono ?_; rintro e w' ⟨rfl, rfl⟩
      go_wp2_with fail
      refine (HA.out _).mono ?_; rintro e w' ⟨rfl, rfl⟩
      go_wp2_with fail
      refine (HB.out _).mono ?_; rintro e w' ⟨rfl, rfl⟩
      go_wp2_with fail
      refine (live10 _).mono ?_; rintro e w' ⟨rfl, n7, rfl⟩
      go_wp2
      go_ret
      exact ⟨rfl, below_drews _ _⟩
end Go.Proofs.Yteempadjldcmlaa
