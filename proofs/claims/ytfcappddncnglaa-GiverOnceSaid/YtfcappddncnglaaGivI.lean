/- Layer 28: the law GiverNil, walked. No conditions. -/
import Derived.Test.YtfcappddncnglaaGivH
namespace Go.Proofs.Ytfcappddncnglaa
open Go.RowKit No
set_option linter.unusedVariables false
attribute [local go_sem ↓] Go.wp_at_zero Go.wp_at_succ

set_option maxRecDepth 100000 in
theorem walk_GiverNil (w : World) (r : Int) (hr : Fit r) (q : Pk) (A : Option Addr) (c : Nat) (hq : PkOk w q A c) :
    Calls Try.prog 11 #[.int .i64 r, .agg (pkC q A c).toArray] w fun e w' => e = .returned (.bool true) ∧ Below w.heap.size w w' := by
  obtain ⟨k, T, C, R, d⟩ := q
  have hdl := hq.len
  clear hq hr
  unfold pkC
  dsimp only at hdl ⊢
  obtain ⟨w1, hw1⟩ : ∃ w1, w1 = w.alloc (.cells #[.int .i64 k, .int .u64 (T : Nat), .int .u64 (C : Nat), .int .u64 (R : Nat), .slice A d.length c] 96) := ⟨_, rfl⟩
  have HB1 : Hid (Below w.heap.size w w1) := by rw [hw1]; exact (Below.refl _ _).alloc (Nat.le_refl _) _
  have HX : Hid (Blk w1 w.heap.size 96 [.int .i64 k, .int .u64 (T : Nat), .int .u64 (C : Nat), .int .u64 (R : Nat), .slice A d.length c]) := by rw [hw1]; exact Blk.new w _ _
  have HW := hide hw1
  clear hw1
  go_enter Try.func11, Try.ntmps11
  go_wp2_with fail
  refine (nil_recv28 _).mono ?_; rintro e w' ⟨rfl, rfl⟩
  rw [show List.toArray [Value.int .i64 k, .int .u64 (T : Nat), .int .u64 (C : Nat), .int .u64 (R : Nat), .slice A d.length c] = #[Value.int .i64 k, .int .u64 (T : Nat), .int .u64 (C : Nat), .int .u64 (R : Nat), .slice A d.length c] from rfl] at *
  rw [← HW.out]
  go_wp2_with fail
  refine (gv_nosrc r _).mono ?_; rintro e w2 ⟨rfl, hb2⟩
  have HB2 := hide (below2 HB1.out hb2 (Nat.le_refl _))
  have HX2 := hide (HX.out.on hb2)
  clear hb2
  go_wp2_with fail
  refine (rgv_nosrc r _).mono ?_; rintro e w3 ⟨rfl, hb3⟩
  have HB3 := hide (below2 HB2.out hb3 (Nat.le_refl _))
  have hx := HX2.out.on hb3
  have x0 := hx.cell (i := 0) rfl
  have x1 := hx.cell (i := 1) rfl
  have x2 := hx.cell (i := 2) rfl
  have x3 := hx.cell (i := 3) rfl
  have x4 := hx.cell (i := 4) rfl
  clear hb3 hx
  go_wp2_with fail
  refine (nil_take28 k T C R A _ c _).mono ?_; rintro e w4 ⟨rfl, hb4⟩
  have HB4 := hide (below2 HB3.out hb4 (Nat.le_refl _))
  clear hb4 x0 x1 x2 x3 x4
  go_wp2_with fail
  refine (nil_kept28 _).mono ?_; rintro e w' ⟨rfl, rfl⟩
  go_wp2_with fail
  refine (nil_state28 _).mono ?_; rintro e w5 ⟨rfl, hb5⟩
  have HB5 := hide (below2 HB4.out hb5 (Nat.le_refl _))
  clear hb5
  go_wp2_with fail
  refine (num28 _ _).mono ?_; rintro e w' ⟨rfl, rfl⟩
  go_wp2_with fail
  refine (live28 _).mono ?_; rintro e w6 ⟨rfl, hb6⟩
  have HB6 := hide (below2 HB5.out hb6 (Nat.le_refl _))
  clear hb6
  go_wp2
  go_ret
  exact ⟨rfl, HB6.out⟩
end Go.Proofs.Ytfcappddncnglaa
