/- Layer 18's live. No conditions. -/
import Derived.Test.YtnbhgeodbpelgaaTalF
import Derived.Test.YtnbhgeodbpelgaaInT
namespace Go.Proofs.Ytnbhgeodbpelgaa
open Go.RowKit
set_option linter.unusedVariables false
attribute [local go_sem ↓] Go.wp_at_zero Go.wp_at_succ

section
variable {w : World} {B gt : Nat} {s s' : List Trow} {F : Nat → Prop}
/-- a text of one byte, told. -/
theorem ta_lit (h : Ta w B gt s F) (hT : tot s ≤ 1000000) (lb : Int) (hl : Fit lb) (x n : Nat) (hx : x < 256) (hs : addT s lb [x] = s') (hn : cntT s' lb [x] = n) :
    Calls Try.prog 47 #[.pointer (some ⟨gt, 0, none⟩), .int .i64 lb, .slice (some ⟨w.heap.size, 0, none⟩) 1 1] (w.alloc (.cells #[.int .u8 (x : Nat)] 5 (1, 2))) fun e w' => ∃ F', e = .returned (.int .u64 (n : Nat)) ∧ Ta w' B gt s' F' ∧ Turn F F' w w' := by
  subst hs hn
  refine (ta_add (h.on ((Below.refl _ _).alloc (Nat.le_refl _) _)) hT lb hl _ 1 [x] (rd_lit1 w x) (by intro y hy; simp at hy; omega) (by simp)).mono ?_
  rintro e w1 ⟨F', he, hm, ht⟩
  exact ⟨F', he, hm, ((Turn.refl F w).alloc _).trans ht⟩
end
set_option maxRecDepth 100000 in
set_option maxHeartbeats 4000000 in
theorem live18 (w : World) : Calls Try.prog 44 #[] w fun e w' => e = .returned (.bool true) ∧ Below w.heap.size w w' := by
  have kc := conv1
  go_enter Try.func44, Try.ntmps44
  go_wp2_with fail
  refine (ta_new w).mono ?_; rintro e w1 ⟨gt, F1, rfl, h1, hb1⟩
  have H1 := hide h1
  have HB1 := hide hb1
  have HA1 := hide (ta_lit (s' := [(0, [97], 1)]) h1 (by simp [tot]) 0 (by unfold Fit; omega) 97 1 (by omega) (by decide) (by decide))
  clear h1 hb1
  go_wp2_with fail
  refine HA1.out.mono ?_; rintro e w2 ⟨F2, rfl, h2, ht2⟩
  have H2 := hide h2
  have HB2 := hide (ht2.below HB1.out H1.out.foot HB1.out.size)
  have HA2 := hide (ta_lit (s' := [(0, [97], 1), (0, [98], 1)]) h2 (by simp [tot]) 0 (by unfold Fit; omega) 98 1 (by omega) (by decide) (by decide))
  clear h2 ht2 HA1
  go_wp2_with fail
  refine HA2.out.mono ?_; rintro e w3 ⟨F3, rfl, h3, ht3⟩
  have H3 := hide h3
  have HB3 := hide (ht3.below HB2.out H2.out.foot HB2.out.size)
  have HA3 := hide (ta_lit (s' := [(0, [97], 1), (0, [98], 2)]) h3 (by simp [tot]) 0 (by unfold Fit; omega) 98 2 (by omega) (by decide) (by decide))
  clear h3 ht3 HA2
  go_wp2_with fail
  refine HA3.out.mono ?_; rintro e w4 ⟨F4, rfl, h4, ht4⟩
  have H4 := hide h4
  have HB4 := hide (ht4.below HB3.out H3.out.foot HB3.out.size)
  have HA4 := hide (ta_lit (s' := [(0, [97], 1), (0, [98], 2), (1, [99], 1)]) h4 (by simp [tot]) 1 (by unfold Fit; omega) 99 1 (by omega) (by decide) (by decide))
  clear h4 ht4 HA3
  go_wp2_with fail
  refine HA4.out.mono ?_; rintro e w5 ⟨F5, rfl, h5, ht5⟩
  have HB5 := hide (ht5.below HB4.out H4.out.foot HB4.out.size)
  have HBS : Hid (Calls Try.prog 49 #[.pointer (some ⟨gt, 0, none⟩), .int .i64 0] w5 fun e w' => ∃ A c, e = .returned (.tuple #[.slice A 1 c, .int .u64 2]) ∧ w'.ownsRow w5.heap.size 5 1 (.slice A 1 c) 1 (u8s [98]) ∧ Below w5.heap.size w5 w') := ta_best h5 (by simp [tot]) 0
  clear h5 ht5 HA4 kc
  go_wp2_with fail
  refine HBS.out.mono ?_; rintro e w6 ⟨A6, c6, rfl, ho6, hb6⟩
  have hcv := run_text (P := Try.prog) (c := c6) (src := 34) (dst := 9) Try.underlying34 Try.underlying5 Try.underlying9 (own_rd ho6) (by simp)
  rw [show strOfNums (([98] : List Nat).map fun n : Nat => (n : Int)) = ⟨#[98]⟩ from rfl, show ([98] : List Nat).length = 1 from rfl] at hcv
  have HB6 := hide (below2 HB5.out hb6 (Nat.le_refl _))
  clear ho6 hb6 HBS
  go_wp2
  go_ret
  exact ⟨rfl, HB6.out⟩
end Go.Proofs.Ytnbhgeodbpelgaa
