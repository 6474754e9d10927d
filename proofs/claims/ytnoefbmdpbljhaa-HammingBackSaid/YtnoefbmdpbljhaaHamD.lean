/- Layer 10: live; the law HammingWords, walked. No conditions. -/
import Derived.Test.YtnoefbmdpbljhaaHamC
namespace Go.Proofs.Ytnoefbmdpbljhaa
open Go.RowKit
set_option linter.unusedVariables false

theorem below_drews (w : World) (n : Nat) : Below w.heap.size w (w.drewN n) := below_drewN (Below.refl _ _) n
theorem live10 (w : World) : Calls Try.prog 17 #[] w fun e w' => e = .returned (.bool true) ∧ ∃ n, w' = w.drewN n := by
  have H1 := hide (fun W => word_in 1 (by omega) W)
  rw [show Hm.word 1 = 15 by decide +kernel] at H1
  have H2 := hide (fun W => half_any 14 (by omega) W)
  rw [show Hm.half 14 = (1, 1, 0) by decide +kernel] at H2
  have H3 := hide (fun W => apart_at 0 255 (by omega) (by omega) W)
  rw [show Hm.apart 0 255 = 8 by decide +kernel] at H3
  go_enter Try.func17, Try.ntmps17
  go_wp2_with fail
  refine (H1.out _).mono ?_; rintro e w' ⟨rfl, n, rfl⟩
  go_wp2_with fail
  refine (H2.out _).mono ?_; rintro e w' ⟨rfl, rfl⟩
  go_wp2_with fail
  refine (num10 _ _).mono ?_; rintro e w' ⟨rfl, rfl⟩
  go_wp2_with fail
  refine (num10 _ _).mono ?_; rintro e w' ⟨rfl, rfl⟩
  go_wp2_with fail
  refine (H3.out _).mono ?_; rintro e w' ⟨rfl, rfl⟩
  go_wp2
  go_ret
  exact ⟨rfl, n, rfl⟩
end Go.Proofs.Ytnoefbmdpbljhaa
