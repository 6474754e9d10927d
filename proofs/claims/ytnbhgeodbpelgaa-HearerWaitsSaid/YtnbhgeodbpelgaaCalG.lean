/- Layer 20's caller: State. No conditions. -/
import Derived.Test.YtnbhgeodbpelgaaCalE
import Derived.Deep.Cut
namespace Go.Proofs.Ytnbhgeodbpelgaa
open Go.RowKit
set_option linter.unusedVariables false
attribute [local go_sem ↓] Go.wp_at_zero Go.wp_at_succ

section
variable {w w' : World} {B gx gq gl room : Nat} {s : Cst} {F : Nat → Prop} {Fs : Nat → Nat → Prop}
set_option maxHeartbeats 2000000 in
theorem cl_state (h : ClAt w B gx gq gl room s F Fs) : Calls Try.prog 27 #[.pointer (some ⟨gx, 0, none⟩)] w fun e w' => e = .returned (.agg #[.int .i64 (s.acc : Nat), .int .i64 (s.don : Nat), .int .u64 (s.led.out : Int), .int .u64 (s.led.mark : Int), .int .u64 (s.acks : Nat), .bool s.led.spent]) ∧ Below w.heap.size w w' := by
  have HW := hide (fun o => h.on ((Below.refl w.heap.size w).alloc (Nat.le_refl _) o))
  have HI := hide (fun o => cl_is (HW.out o))
  have HBA := hide (fun o => (Below.refl w.heap.size w).alloc (Nat.le_refl _) o)
  obtain ⟨w1, hw1⟩ : ∃ w1, w1 = w.alloc (.cells #[.int .i64 0, .int .i64 0, .int .u64 0, .int .u64 0, .int .u64 0, .bool false] 52) := ⟨_, rfl⟩
  have HX : Hid (Blk w1 w.heap.size 52 [.int .i64 0, .int .i64 0, .int .u64 0, .int .u64 0, .int .u64 0, .bool false]) := by rw [hw1]; exact Blk.new w _ _
  have HM : Hid (ClAt w1 B gx gq gl room s F Fs) := by rw [hw1]; exact HW.out _
  have HB1 : Hid (Below w.heap.size w w1) := by rw [hw1]; exact HBA.out _
  have HW1 := hide hw1
  have HO := hide (led_out w1.drew gl s.led (HM.out.on (Below.refl _ _).drew).l)
  have HK := hide (led_marked w1.drew gl s.led (HM.out.on (Below.refl _ _).drew).l)
  have HS := hide (led_spent w1.drew gl s.led (HM.out.on (Below.refl _ _).drew).l)
  obtain ⟨d0, d1, d2, d3, d4⟩ := HM.out.cells
  have x0 := HX.out.cell (i := 0) rfl
  have x1 := HX.out.cell (i := 1) rfl
  have x2 := HX.out.cell (i := 2) rfl
  have x3 := HX.out.cell (i := 3) rfl
  have x4 := HX.out.cell (i := 4) rfl
  have x5 := HX.out.cell (i := 5) rfl
  have f0 := HX.out.free 0
  have f1 := HX.out.free 1
  have f2 := HX.out.free 2
  have f3 := HX.out.free 3
  have f4 := HX.out.free 4
  have f5 := HX.out.free 5
  have hxlt : gx < w.heap.size := h.ob.blk.lt
  have hne : w.heap.size ≠ gx := by omega
  clear h hw1
  go_enter Try.func27, Try.ntmps27
  go_wp2_with fail
  refine (HI.out _).mono ?_; rintro e w' ⟨rfl, rfl⟩
  go_upto_region 3 with (fail)
  rw [← HW1.out]
  go_region_held3 (fun W => W.cell? ⟨gx, 1, none⟩ = some (.pointer (some ⟨gl, 0, none⟩)) ∧ W.cell? ⟨gx, 2, none⟩ = some (.int .i64 (s.acc : Nat)) ∧ W.cell? ⟨gx, 3, none⟩ = some (.int .i64 (s.don : Nat)) ∧ W.cell? ⟨gx, 4, none⟩ = some (.int .u64 (s.acks : Nat))) (go_keep)
   ((first
    | (go_at_call 77; (with_reducible refine HO.out.mono ?_); rintro e w4 ⟨rfl, rfl⟩)
    | (go_at_call 78; (with_reducible refine HK.out.mono ?_); rintro e w4 ⟨rfl, rfl⟩)
    | (go_at_call 79; (with_reducible refine HS.out.mono ?_); rintro e w4 ⟨rfl, rfl⟩)))
  have hx6 := ((((((HX.out.set 0 (.int .i64 (s.acc : Nat))).set 1 (.int .i64 (s.don : Nat))).set 2 (.int .u64 (s.led.out : Int))).set 3 (.int .u64 (s.led.mark : Int))).set 4 (.int .u64 (s.acks : Nat))).set 5 (.bool s.led.spent))
  have y0 := hx6.cell (i := 0) (v := .int .i64 (s.acc : Nat)) rfl
  have y1 := hx6.cell (i := 1) (v := .int .i64 (s.don : Nat)) rfl
  have y2 := hx6.cell (i := 2) (v := .int .u64 (s.led.out : Int)) rfl
  have y3 := hx6.cell (i := 3) (v := .int .u64 (s.led.mark : Int)) rfl
  have y4 := hx6.cell (i := 4) (v := .int .u64 (s.acks : Nat)) rfl
  have y5 := hx6.cell (i := 5) (v := .bool s.led.spent) rfl
  have HBB := hide (((((((HB1.out.setCell (p := ⟨w.heap.size, 0, none⟩) (Nat.le_refl _) (.int .i64 (s.acc : Nat))).setCell (p := ⟨w.heap.size, 1, none⟩) (Nat.le_refl _) (.int .i64 (s.don : Nat))).setCell (p := ⟨w.heap.size, 2, none⟩) (Nat.le_refl _) (.int .u64 (s.led.out : Int))).setCell (p := ⟨w.heap.size, 3, none⟩) (Nat.le_refl _) (.int .u64 (s.led.mark : Int))).setCell (p := ⟨w.heap.size, 4, none⟩) (Nat.le_refl _) (.int .u64 (s.acks : Nat))).setCell (p := ⟨w.heap.size, 5, none⟩) (Nat.le_refl _) (.bool s.led.spent))).drew
  clear x0 x1 x2 x3 x4 x5 f0 f1 f2 f3 f4 f5 hx6
  go_wp2
  (try simp only [Exit.inBlock, Exit.then])
  refine bodyPost_ret (v := .agg #[.int .i64 (s.acc : Nat), .int .i64 (s.don : Nat), .int .u64 (s.led.out : Int), .int .u64 (s.led.mark : Int), .int .u64 (s.acks : Nat), .bool s.led.spent]) (by simp [results, Try.results27, go_sem, y0, y1, y2, y3, y4, y5]) rfl ?_
  exact ⟨rfl, HBB.out⟩
end
end Go.Proofs.Ytnbhgeodbpelgaa
