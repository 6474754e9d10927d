/- Layer 21's reference hearer: Take of a telling. No conditions. -/
import Derived.Test.YtnbhgeodbpelgaaHeL
import Derived.Deep.RegionLaw
import Derived.Deep.Cut
namespace Go.Proofs.Ytnbhgeodbpelgaa
open Go.RowKit
set_option linter.unusedVariables false
attribute [local go_sem ↓] Go.wp_at_zero Go.wp_at_succ

section
variable {w w' : World} {B gx gq gl gt room : Nat} {s : Hst} {F : Nat → Prop} {Fs : Nat → Nat → Prop}
set_option maxRecDepth 100000 in
set_option maxHeartbeats 8000000 in
theorem rhe_take3n (h : RHeAt w B gx gq gl gt room s F Fs) (hd : s.ent ≤ 1000000) (lb : Int) (A : Option Addr) (c : Nat) (m : List Nat) (hh : s.led.hearB = false) :
    Calls Try.prog 39 #[.pointer (some ⟨gx, 0, none⟩), .agg #[.int .i64 3, .int .i64 lb, .slice A m.length c]] w (RHTellR w B gx room (heardH s) F []) := by
  obtain ⟨w1, hw1⟩ : ∃ w1, w1 = w.alloc (.cells #[.int .i64 3, .int .i64 lb, .slice A m.length c] 36) := ⟨_, rfl⟩
  have HE1 : Hid (RHere w w1 B gx gq gl gt room s F F Fs 3 lb (.slice A m.length c)) := by rw [hw1]; exact h.rhere 3 lb _
  have HW1 := hide hw1
  have x0 : w1.cell? ⟨w.heap.size, 0, none⟩ = some (.int .i64 3) := HE1.out.x.cell (i := 0) rfl
  have c1 := HE1.out.m.cells.2.1
  have HHE := hide (rled_hear _ gl s.led HE1.out.drew.m.l HE1.out.drew.m.ok)
  rw [hh] at HHE
  unfold RHTellR
  clear h hw1 hh
  go_enter Try.func39, Try.ntmps39
  go_upto_region 1 with (fail)
  rw [← HW1.out]
  go_upto_region 7 with (fail)
  clear x0
  first | (go_region_law
   ((first
    | (go_simp; go_at_call 74; (with_reducible refine HHE.out.mono ?_); rintro e w4 ⟨rfl, hl4, hg4⟩; obtain ⟨F2, Fs2, h2⟩ := HE1.out.drew.hear hl4 hg4)))) | fail
  all_goals
    have H2 := hide h2
    clear h2 hl4 hg4
    go_wp2
    go_ret
    exact ⟨none, 0, F2, rfl, Prbs.nil _ _ _, ⟨_, _, _, _, H2.out.m⟩, H2.out.tu⟩
set_option maxRecDepth 100000 in
set_option maxHeartbeats 8000000 in
theorem rhe_take3f (h : RHeAt w B gx gq gl gt room s F Fs) (hd : s.ent ≤ 1000000) (lb : Int) (A : Option Addr) (c : Nat) (m : List Nat) (hh : s.led.hearB = true) (hl : (lb == ((s.ent % 2 : Nat) : Int)) = false) :
    Calls Try.prog 39 #[.pointer (some ⟨gx, 0, none⟩), .agg #[.int .i64 3, .int .i64 lb, .slice A m.length c]] w (RHTellR w B gx room (heardH s) F []) := by
  obtain ⟨w1, hw1⟩ : ∃ w1, w1 = w.alloc (.cells #[.int .i64 3, .int .i64 lb, .slice A m.length c] 36) := ⟨_, rfl⟩
  have HE1 : Hid (RHere w w1 B gx gq gl gt room s F F Fs 3 lb (.slice A m.length c)) := by rw [hw1]; exact h.rhere 3 lb _
  have HW1 := hide hw1
  have x0 : w1.cell? ⟨w.heap.size, 0, none⟩ = some (.int .i64 3) := HE1.out.x.cell (i := 0) rfl
  have m0 : w1.cell? ⟨gx, 1, none⟩ = some (.pointer (some ⟨gl, 0, none⟩)) ∧ w1.cell? ⟨gx, 3, none⟩ = some (.int .i64 (s.ent : Nat)) ∧ w1.cell? ⟨w.heap.size, 1, none⟩ = some (.int .i64 lb) := ⟨HE1.out.m.cells.2.1, HE1.out.m.cells.2.2.2.1, HE1.out.x.cell (i := 1) rfl⟩
  have HHE := hide (rled_hear _ gl s.led HE1.out.drew.m.l HE1.out.drew.m.ok)
  have b2 : (lb == (s.ent : Int) % 2) = false := by rw [beq_eq_false_iff_ne] at hl ⊢; omega
  have b3 : (lb == (s.ent : Int).tmod 2) = false := by rw [Int.tmod_eq_emod_of_nonneg (by omega)]; exact b2
  rw [hh] at HHE
  unfold RHTellR
  clear h hw1 hh hl
  go_enter Try.func39, Try.ntmps39
  go_upto_region 1 with (fail)
  rw [← HW1.out]
  go_upto_region 7 with (fail)
  clear x0
  go_region_held3 (fun W => W.cell? ⟨gx, 1, none⟩ = some (.pointer (some ⟨gl, 0, none⟩)) ∧ W.cell? ⟨gx, 3, none⟩ = some (.int .i64 (s.ent : Nat)) ∧ W.cell? ⟨w.heap.size, 1, none⟩ = some (.int .i64 lb)) (first
      | exact hn
      | exact m0
      | go_keep)
    ((first
      | (go_at_call 74; (with_reducible refine HHE.out.mono ?_); rintro e w4 ⟨rfl, hl4, hg4⟩; obtain ⟨F2, Fs2, h2⟩ := HE1.out.drew.hear hl4 hg4; have hn : w4.cell? ⟨gx, 1, none⟩ = some (.pointer (some ⟨gl, 0, none⟩)) ∧ w4.cell? ⟨gx, 3, none⟩ = some (.int .i64 (s.ent : Nat)) ∧ w4.cell? ⟨w.heap.size, 1, none⟩ = some (.int .i64 lb) := ⟨h2.m.cells.2.1, h2.m.cells.2.2.2.1, h2.x.cell (i := 1) rfl⟩)))
  all_goals
    have H2 := hide h2
    clear h2 hl4 hg4 hn
    go_wp2
    go_ret
    exact ⟨none, 0, F2, rfl, Prbs.nil _ _ _, ⟨_, _, _, _, H2.out.m⟩, H2.out.tu⟩
end
end Go.Proofs.Ytnbhgeodbpelgaa
