/- Layer 20's caller and its reference's, side by side: alike. No conditions. -/
import Derived.Test.YtnbhgeodbpelgaaCalI
import Derived.Test.YtnbhgeodbpelgaaInC
namespace Go.Proofs.Ytnbhgeodbpelgaa
open Go.RowKit
set_option linter.unusedVariables false
attribute [local go_sem ↓] Go.wp_at_zero Go.wp_at_succ

theorem num20 (w : World) (x : Int) : Calls Try.prog 16 #[.int .i64 x] w fun e w' => e = .returned (.int .i64 x) ∧ w = w' := by
  go_enter Try.func16, Try.ntmps16
  go_wp2
  go_ret
  exact ⟨rfl, rfl⟩
/-- both callers, off one another. -/
structure BothC (w0 w : World) (B2 gx gy room : Nat) (s : Cst) (F G : Nat → Prop) : Prop where
  m : Cl w w0.heap.size gx room s F
  r : RCl w B2 gy room s G
  off : Off F G
  lo : w0.heap.size ≤ B2
  bel : Below w0.heap.size w0 w
section
variable {w0 w w1 w2 : World} {B2 gx gy room : Nat} {s s' : Cst} {F F' G G' : Nat → Prop}
theorem BothC.on (h : BothC w0 w B2 gx gy room s F G) (hb : Below w.heap.size w w2) : BothC w0 w2 B2 gx gy room s F G := ⟨h.m.on hb, h.r.on hb, h.off, h.lo, below2 h.bel hb (Nat.le_refl _)⟩
theorem BothC.mid (h : BothC w0 w B2 gx gy room s F G) (ht : Turn F F' w w1) : RCl w1 B2 gy room s G := h.r.kept (ht.kept h.off h.r.foot) ht.size
theorem BothC.bel1 (h : BothC w0 w B2 gx gy room s F G) (ht : Turn F F' w w1) : Below w0.heap.size w0 w1 := ht.below h.bel h.m.foot h.bel.size
theorem BothC.step (h : BothC w0 w B2 gx gy room s F G) (ht : Turn F F' w w1) (hm : Cl w1 w0.heap.size gx room s' F') (ht2 : Turn G G' w1 w2) (hr : RCl w2 B2 gy room s' G') : BothC w0 w2 B2 gx gy room s' F' G' := by
  have o1 : Off F' G := ht.off h.off h.r.foot
  have r1 := h.mid ht
  have o2 : Off G' F' := ht2.off o1.symm hm.foot
  exact ⟨hm.kept (ht2.kept o1.symm hm.foot) ht2.size, hr, o2.symm, h.lo, ht2.below (h.bel1 ht) (r1.foot.down h.lo) (Nat.le_trans h.bel.size ht.size)⟩
/-- packets that the first has told are there behind the second's turn. -/
theorem BothC.prbs {A : Option Addr} {ts : List Prb} (h : BothC w0 w B2 gx gy room s F G) (htk : Prbs (fun k => w.heap.size ≤ k ∧ ¬ F' k) w1 A ts) (ht2 : Turn G G' w1 w2) : Prbs (fun k => w.heap.size ≤ k ∧ ¬ F' k) w2 A ts :=
  htk.kept (fun b hb hl => ht2.block b hl (fun hg => by have := (h.r.foot b hg).2; omega)) ht2.size
end
set_option maxRecDepth 100000 in
set_option maxHeartbeats 4000000 in
theorem alike20 {w0 w : World} {B2 gx gy room : Nat} {s : Cst} {F G : Nat → Prop} (h : BothC w0 w B2 gx gy room s F G) :
    Calls Try.prog 26 #[.pointer (some ⟨gx, 0, none⟩), .pointer (some ⟨gy, 0, none⟩)] w fun e w' => e = .returned (.bool true) ∧ Below w.heap.size w w' := by
  obtain ⟨gq, gl, Fs, hm⟩ := h.m
  have HS := hide (cl_state hm)
  obtain ⟨rq, rl, Gs, hr⟩ := h.r
  have HR := hide hr
  have n1 : ((s.acc : Int) == (s.acc : Int)) = true := by simp
  have n2 : ((s.don : Int) == (s.don : Int)) = true := by simp
  have n3 : ((s.led.out : Int) == (s.led.out : Int)) = true := by simp
  have n4 : ((s.led.mark : Int) == (s.led.mark : Int)) = true := by simp
  have n5 : ((s.acks : Int) == (s.acks : Int)) = true := by simp
  have n6 : (s.led.spent == s.led.spent) = true := by simp
  clear h hm hr
  go_enter Try.func26, Try.ntmps26
  go_wp2_with fail
  refine HS.out.mono ?_; rintro e w5 ⟨rfl, hb5⟩
  obtain ⟨w6, hw6⟩ : ∃ w6, w6 = w5.alloc (.cells #[.int .i64 (s.acc : Nat), .int .i64 (s.don : Nat), .int .u64 (s.led.out : Int), .int .u64 (s.led.mark : Int), .int .u64 (s.acks : Nat), .bool s.led.spent] 52) := ⟨_, rfl⟩
  have HX6 : Hid (Blk w6 w5.heap.size 52 [.int .i64 (s.acc : Nat), .int .i64 (s.don : Nat), .int .u64 (s.led.out : Int), .int .u64 (s.led.mark : Int), .int .u64 (s.acks : Nat), .bool s.led.spent]) := by rw [hw6]; exact Blk.new w5 _ _
  have hb56 : Below w5.heap.size w5 w6 := by rw [hw6]; exact (Below.refl _ _).alloc (Nat.le_refl _) _
  have HB6 := hide (below2 hb5 hb56 (Nat.le_refl _))
  have hr6 := (HR.out.on hb5).on hb56
  obtain ⟨_, y1, y2, y3, y4⟩ := hr6.cells
  have z0 := hr6.l.cell (i := 0) rfl
  have z1 := hr6.l.cell (i := 1) rfl
  have z2 := hr6.l.cell (i := 2) rfl
  have x0 := HX6.out.cell (i := 0) rfl
  have x1 := HX6.out.cell (i := 1) rfl
  have x2 := HX6.out.cell (i := 2) rfl
  have x3 := HX6.out.cell (i := 3) rfl
  have x4 := HX6.out.cell (i := 4) rfl
  have x5 := HX6.out.cell (i := 5) rfl
  have HW6 := hide hw6
  clear hb5 hb56 hw6 hr6 HS
  go_wp2
  rw [← HW6.out]
  go_quiet (fail)
  go_wp2
  go_ret
  exact ⟨rfl, below_drewN HB6.out _⟩
end Go.Proofs.Ytnbhgeodbpelgaa
