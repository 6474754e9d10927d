/- Layer 21's reference hearer: Take of an asking, of a hearing and of no packet of its own. No conditions. -/
import Derived.Test.YtnbhgeodbpelgaaHeK
namespace Go.Proofs.Ytnbhgeodbpelgaa
open Go.RowKit
set_option linter.unusedVariables false
attribute [local go_sem ↓] Go.wp_at_zero Go.wp_at_succ

section
variable {w w' : World} {B gx gq gl gt room : Nat} {s : Hst} {F : Nat → Prop} {Fs : Nat → Nat → Prop}
set_option maxHeartbeats 4000000 in
theorem rhe_take1 (h : RHeAt w B gx gq gl gt room s F Fs) (hd : s.ent ≤ 1000000) (lb : Int) (A : Option Addr) (c : Nat) (m : List Nat) :
    Calls Try.prog 39 #[.pointer (some ⟨gx, 0, none⟩), .agg #[.int .i64 1, .int .i64 lb, .slice A m.length c]] w (RHTellR w B gx room (takeHS room s 1 lb m) F (takeHT s 1)) := by
  obtain ⟨w1, hw1⟩ : ∃ w1, w1 = w.alloc (.cells #[.int .i64 1, .int .i64 lb, .slice A m.length c] 36) := ⟨_, rfl⟩
  have HE1 : Hid (RHere w w1 B gx gq gl gt room s F F Fs 1 lb (.slice A m.length c)) := by rw [hw1]; exact h.rhere 1 lb _
  have HW1 := hide hw1
  have x0 : w1.cell? ⟨w.heap.size, 0, none⟩ = some (.int .i64 1) := HE1.out.x.cell (i := 0) rfl
  have c3 := HE1.out.m.cells.2.2.2.1
  unfold RHTellR
  clear h hw1
  have e1 : takeHS room s 1 lb m = s := by unfold takeHS; rw [if_neg (by decide), if_neg (by decide)]
  have e2 : takeHT s 1 = [(4, ((s.ent : Int) + 1).tmod 2, [])] := by
    unfold takeHT
    rw [if_pos rfl, show (1 : Int) - ((s.ent % 2 : Nat) : Int) = ((s.ent : Int) + 1).tmod 2 by rw [Int.tmod_eq_emod_of_nonneg (by omega)]; omega]
  rw [e1, e2]
  clear e1 e2
  go_enter Try.func39, Try.ntmps39
  go_upto_region 1 with (fail)
  rw [← HW1.out]
  go_wp2
  go_ret
  exact ⟨_, _, F, rfl, prbs_one w1 4 _ none 0 [] 36 ⟨HE1.out.tu.size, fun hf => by have := (HE1.out.m.ob.foot _ hf).2; omega⟩ (Rd.nil _ _ _) (by simp) (fun h => by cases h), RHe.on ⟨_, _, _, _, HE1.out.m⟩ ((Below.refl _ _).alloc (Nat.le_refl _) _), HE1.out.tu.alloc _⟩
set_option maxHeartbeats 4000000 in
theorem rhe_take2 (h : RHeAt w B gx gq gl gt room s F Fs) (lb : Int) (A : Option Addr) (c : Nat) (m : List Nat) :
    Calls Try.prog 39 #[.pointer (some ⟨gx, 0, none⟩), .agg #[.int .i64 2, .int .i64 lb, .slice A m.length c]] w (RHTellR w B gx room (takeHS room s 2 lb m) F (takeHT s 2)) := by
  obtain ⟨w1, hw1⟩ : ∃ w1, w1 = w.alloc (.cells #[.int .i64 2, .int .i64 lb, .slice A m.length c] 36) := ⟨_, rfl⟩
  have HE1 : Hid (RHere w w1 B gx gq gl gt room s F F Fs 2 lb (.slice A m.length c)) := by rw [hw1]; exact h.rhere 2 lb _
  have HW1 := hide hw1
  have x0 : w1.cell? ⟨w.heap.size, 0, none⟩ = some (.int .i64 2) := HE1.out.x.cell (i := 0) rfl
  have c1 := HE1.out.m.cells.2.1
  have HHE := hide (rled_hear w1 gl s.led HE1.out.m.l HE1.out.m.ok)
  unfold RHTellR
  clear h hw1
  have e1 : takeHS room s 2 lb m = heardH s := by unfold takeHS; rw [if_pos rfl]
  have e2 : takeHT s 2 = [] := by unfold takeHT; rw [if_neg (by decide)]
  rw [e1, e2]
  clear e1 e2
  go_enter Try.func39, Try.ntmps39
  go_upto_region 1 with (fail)
  rw [← HW1.out]
  go_wp2_with fail
  refine HHE.out.mono ?_; rintro e w4 ⟨rfl, hl4, hg4⟩
  obtain ⟨F2, Fs2, h2⟩ := HE1.out.hear hl4 hg4
  have H2 := hide h2
  clear hl4 hg4 h2
  go_wp2
  go_ret
  exact ⟨none, 0, F2, rfl, Prbs.nil _ _ _, ⟨_, _, _, _, H2.out.m⟩, H2.out.tu⟩
set_option maxHeartbeats 4000000 in
theorem rhe_take0 (h : RHeAt w B gx gq gl gt room s F Fs) (k lb : Int) (hk1 : k ≠ 1) (hk2 : k ≠ 2) (hk3 : k ≠ 3) (A : Option Addr) (c : Nat) (m : List Nat) :
    Calls Try.prog 39 #[.pointer (some ⟨gx, 0, none⟩), .agg #[.int .i64 k, .int .i64 lb, .slice A m.length c]] w (RHTellR w B gx room (takeHS room s k lb m) F (takeHT s k)) := by
  obtain ⟨w1, hw1⟩ : ∃ w1, w1 = w.alloc (.cells #[.int .i64 k, .int .i64 lb, .slice A m.length c] 36) := ⟨_, rfl⟩
  have HE1 : Hid (RHere w w1 B gx gq gl gt room s F F Fs k lb (.slice A m.length c)) := by rw [hw1]; exact h.rhere k lb _
  have HW1 := hide hw1
  have x0 : w1.cell? ⟨w.heap.size, 0, none⟩ = some (.int .i64 k) := HE1.out.x.cell (i := 0) rfl
  have b1 : (k == 1) = false := by rw [beq_eq_false_iff_ne]; exact hk1
  have b2 : (k == 2) = false := by rw [beq_eq_false_iff_ne]; exact hk2
  have b3 : (k == 3) = false := by rw [beq_eq_false_iff_ne]; exact hk3
  unfold RHTellR
  clear h hw1
  have e1 : takeHS room s k lb m = s := by unfold takeHS; rw [if_neg hk2, if_neg hk3]
  have e2 : takeHT s k = [] := by unfold takeHT; rw [if_neg hk1]
  rw [e1, e2]
  clear e1 e2 hk1 hk2 hk3
  go_enter Try.func39, Try.ntmps39
  go_upto_region 1 with (fail)
  rw [← HW1.out]
  go_wp2
  go_ret
  exact ⟨none, 0, F, rfl, Prbs.nil _ _ _, ⟨_, _, _, _, HE1.out.m⟩, HE1.out.tu⟩
end
end Go.Proofs.Ytnbhgeodbpelgaa
