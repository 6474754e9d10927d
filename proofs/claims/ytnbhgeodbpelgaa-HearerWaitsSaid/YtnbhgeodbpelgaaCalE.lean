/- Layer 20's caller: acked, Take, State. No conditions. -/
import Derived.Test.YtnbhgeodbpelgaaCalD
import Derived.Deep.CutBlock
namespace Go.Proofs.Ytnbhgeodbpelgaa
open Go.RowKit
set_option linter.unusedVariables false
attribute [local go_sem ↓] Go.wp_at_zero Go.wp_at_succ

section
variable {w w' : World} {B gx gq gl room : Nat} {s : Cst} {F : Nat → Prop} {Fs : Nat → Nat → Prop}
/-- told that the other side has it. -/
def ackedS (s : Cst) : Cst := if s.led.enough ((s.acks + 1 : Nat) : Int) then turnsC { s with acks := s.acks + 1, q := s.q.tail, don := s.don + 1 } else { s with acks := s.acks + 1 }
set_option maxHeartbeats 1000000 in
theorem cl_acked (h : ClAt w B gx gq gl room s F Fs) (hd : s.don ≤ 1000000) (ha : s.acks ≤ 1000000) : Calls Try.prog 72 #[.pointer (some ⟨gx, 0, none⟩)] w fun e w' => e = .returned (.tuple #[]) ∧ ∃ F' Fs', ClAt w' B gx gq gl room (ackedS s) F' Fs' ∧ Turn F F' w w' := by
  have c4 := h.cells.2.2.2.2
  have f4 := h.ob.blk.free 4
  obtain ⟨h1, t1⟩ := h.setAcks (s.acks + 1)
  obtain ⟨w1, hw1⟩ : ∃ w1, w1 = w.setCell ⟨gx, 4, none⟩ (.int .u64 ((s.acks + 1 : Nat) : Int)) := ⟨_, rfl⟩
  rw [← hw1] at h1 t1
  have hw1b : w.setCell ⟨gx, 4, none⟩ (.int .u64 ((s.acks : Int) + 1)) = w1 := by rw [hw1]; rfl
  obtain ⟨d0, d1, d2, d3, d4⟩ := h1.cells
  have HA := hide h1
  have HT := hide t1
  obtain ⟨na, hna⟩ : ∃ na : Int, na = ((s.acks + 1 : Nat) : Int) := ⟨_, rfl⟩
  have HEN := hide (led_enough w1.drew gl s.led na (h1.on (Below.refl _ _).drew).l)
  have HPO := hide (fun n => que_pop (h1.on (below_drewN (Below.refl w1.heap.size w1) n)).q)
  have HWB := hide hw1b
  unfold ackedS
  rw [← hna]
  have d4' : w1.cell? ⟨gx, 4, none⟩ = some (.int .u64 na) := by rw [hna]; exact d4
  clear h h1 t1 hw1 hw1b hna d4
  cases hen : s.led.enough na with
  | false =>
    rw [if_neg (by simp)]
    rw [hen] at HEN
    go_enter Try.func72, Try.ntmps72
    go_upto_region 1 with (fail)
    rw [HWB.out]
    go_region_held3 (fun W => W.cell? ⟨gx, 1, none⟩ = some (.pointer (some ⟨gl, 0, none⟩)) ∧ W.cell? ⟨gx, 4, none⟩ = some (.int .u64 na)) (first
      | exact ⟨d1, d4'⟩
      | go_keep)
     ((first
      | (go_at_call 98; (with_reducible refine HEN.out.mono ?_); rintro e w4 ⟨rfl, rfl⟩)))
    go_wp2
    go_returns
    exact ⟨rfl, _, _, HA.out.on (Below.refl _ _).drew, HT.out.drew⟩
  | true =>
    rw [if_pos rfl]
    rw [hen] at HEN
    go_enter Try.func72, Try.ntmps72
    go_upto_region 1 with (fail)
    rw [HWB.out]
    go_region_held3 (fun W => W.cell? ⟨gx, 1, none⟩ = some (.pointer (some ⟨gl, 0, none⟩)) ∧ W.cell? ⟨gx, 4, none⟩ = some (.int .u64 na)) (first
      | exact ⟨d1, d4'⟩
      | go_keep)
     ((first
      | (go_at_call 98; (with_reducible refine HEN.out.mono ?_); rintro e w4 ⟨rfl, rfl⟩)))
    have HP := hide (HPO.out 1)
    go_wp2_with fail
    refine HP.out.mono ?_; rintro e w4 ⟨A, c, rfl, _, hq4, ht4⟩
    obtain ⟨F2, Fs2, h2, t2⟩ := (HA.out.on (below_drewN (Below.refl _ _) 1)).que hq4 ht4
    have e3 := h2.cells.2.2.2.1
    have f3 := h2.ob.blk.free 3
    obtain ⟨h3, t3⟩ := h2.setDon (s.don + 1)
    have HTU := hide (cl_turns h3)
    have T3 := hide ((HT.out.drewN 1).trans (t2.trans t3))
    clear hq4 ht4 h2 t2 h3 t3 HP HPO
    go_wp2_with fail
    refine HTU.out.mono ?_; rintro e w5 ⟨rfl, F5, Fs5, h5, t5⟩
    have H5 := hide h5
    have T5 := hide t5
    clear h5 t5 HTU
    go_wp2
    go_returns
    exact ⟨rfl, F5, Fs5, H5.out, T3.out.trans T5.out⟩
end
end Go.Proofs.Ytnbhgeodbpelgaa
