/- Layer 18's reference tally: Best; alike. No conditions. -/
import Derived.Test.YtnbhgeodbpelgaaTalK
namespace Go.Proofs.Ytnbhgeodbpelgaa
open Go.RowKit
set_option linter.unusedVariables false
attribute [local go_sem ↓] Go.wp_at_zero Go.wp_at_succ

section
variable {w w' : World} {B gt cV : Nat} {V : Option Addr} {s : List Trow} {F : Nat → Prop}
set_option maxRecDepth 100000 in
set_option maxHeartbeats 4000000 in
theorem rta_best (h : RTa w B gt s F) (hT : tot s ≤ 1000000) (lb : Int) : Calls Try.prog 50 #[.pointer (some ⟨gt, 0, none⟩), .int .i64 lb] w (BestR (bestT s lb) w) := by
  obtain ⟨V, cV, h⟩ := h
  have hlen : s.length ≤ 1000000 := Nat.le_trans h.ok.len hT
  have hbl := hide (best_len (n := 1000000) (fun r hr => (h.ok r hr).2.2.1) lb)
  obtain ⟨w1, hw1⟩ : ∃ w1, w1 = w.alloc (.cells #[.int .i64 0, .slice none 0 0, .int .u64 0] 138) := ⟨_, rfl⟩
  have hb1 : Below w.heap.size w w1 := by rw [hw1]; exact (Below.refl _ _).alloc (Nat.le_refl _) _
  have HK1 : Hid (KeepB w w1 138 (bestT (s.take 0) lb)) := ⟨0, none, 0, by rw [hw1]; exact Blk.new w _ _, Rd.nil _ _ _, hb1⟩
  have HH := hide h
  have HW1 := hide hw1
  clear h hw1 hb1
  go_enter Try.func50, Try.ntmps50
  go_upto_region 2 with (fail)
  rw [← HW1.out]
  go_wp2
  go_loopw [7] (fun i wr => ∃ k : Nat, k ≤ s.length ∧ i = .int .i64 k ∧ Hid (KeepB w wr 138 (bestT (s.take k) lb))) (fun i _ => s.length - (intOf i).toNat)
  case atStart => exact ⟨0, Nat.zero_le _, rfl, HK1.out⟩
  case round =>
    obtain ⟨k, hk, rfl, hrel⟩ := hrel
    obtain ⟨lb0, D0, c0, hbk0, hrd0, hb0⟩ := hrel.out
    have cg := ((HH.out.on hb0).blk).cell (i := 0) rfl
    clear HK1
    by_cases hlt : k < s.length
    · obtain ⟨r, hr⟩ : ∃ r, s[k]? = some r := ⟨_, List.getElem?_eq_getElem hlt⟩
      have HBT := hide (best_take s lb hr)
      obtain ⟨bst, hbst⟩ : ∃ b, b = bestT (s.take k) lb := ⟨_, rfl⟩
      rw [← hbst] at HBT hbk0 hrd0
      obtain ⟨rl, rm, rc⟩ := r
      obtain ⟨b, D, cD, hVe, hbl2, _, p0, p1, p2, _, hrd, _⟩ := HH.out.rows.get hr
      have q0 := (hb0.cell (p := ⟨b, k * 3, none⟩) hbl2).trans p0
      have q1 := (hb0.cell (p := ⟨b, k * 3 + 1, none⟩) hbl2).trans p1
      have q2 := (hb0.cell (p := ⟨b, k * 3 + 2, none⟩) hbl2).trans p2
      dsimp only at q0 q1 q2 hrd
      subst hVe
      have g0 : (0 : Int) ≤ (k : Int) := by omega
      have g1 : (k : Int) < (s.length : Int) := by omega
      have y0 := hbk0.cell (i := 0) rfl
      have y1 := hbk0.cell (i := 1) rfl
      have y2 := hbk0.cell (i := 2) rfl
      have z0 := hbk0.free 0
      have z1 := hbk0.free 1
      have z2 := hbk0.free 2
      have HG0 := hide hbk0
      have HR2 := hide hrd
      have HR0 := hide hrd0
      have HB0 := hide hb0
      clear hbst hr hrd hrd0 hbk0 hb0 hrel hbl2 p0 p1 p2
      by_cases hc : rl = lb ∧ bst.2 < rc
      · obtain ⟨rfl, hc2⟩ := hc
        have HBE : Hid (bestT (s.take (k + 1)) rl = (rm, rc)) := by rw [HBT.out]; unfold bestF; exact if_pos ⟨rfl, hc2⟩
        have hc3 : (bst.2 : Int) < (rc : Int) := by omega
        clear hc2 HBT
        go_wp2
        go_quiet (fail)
        go_wp2
        go_roundw
        case rel =>
          refine ⟨k + 1, by omega, by go_num, ?_⟩
          show KeepB _ _ _ _
          rw [HBE.out]
          exact ⟨_, D, cD, blk_three HG0.out, HR2.out, below_drewN ((((HB0.out.setCell (p := ⟨w.heap.size, 0, none⟩) (Nat.le_refl _) _).setCell (p := ⟨w.heap.size, 1, none⟩) (Nat.le_refl _) _).setCell (p := ⟨w.heap.size, 2, none⟩) (Nat.le_refl _) _)) _⟩
        case measure => simp [intOf]; omega
      · have HBE : Hid (bestT (s.take (k + 1)) lb = bst) := by rw [HBT.out]; unfold bestF; exact if_neg hc
        by_cases hl : rl = lb
        · have hc3 : ¬ (bst.2 : Int) < (rc : Int) := fun h => hc ⟨hl, by omega⟩
          subst hl
          clear hc HBT
          go_wp2
          go_quiet (fail)
          go_wp2
          go_roundw
          case rel =>
            refine ⟨k + 1, by omega, by go_num, ?_⟩
            show KeepB _ _ _ _
            rw [HBE.out]
            exact ⟨_, D0, c0, HG0.out.drewN _, HR0.out, below_drewN HB0.out _⟩
          case measure => simp [intOf]; omega
        · have hl3 : (rl == lb) = false := by simp; exact hl
          clear hc HBT hl
          go_wp2
          go_quiet (fail)
          go_wp2
          go_roundw
          case rel =>
            refine ⟨k + 1, by omega, by go_num, ?_⟩
            show KeepB _ _ _ _
            rw [HBE.out]
            exact ⟨_, D0, c0, HG0.out.drewN _, HR0.out, below_drewN HB0.out _⟩
          case measure => simp [intOf]; omega
    · obtain rfl : k = s.length := by omega
      rw [List.take_length] at hbk0 hrd0
      obtain ⟨bst, hbst⟩ : ∃ b, b = bestT s lb := ⟨_, rfl⟩
      have hbl := hbl.out
      rw [← hbst] at hbk0 hrd0 hbl
      have HBST := hide hbst
      have HJ := hide (copy_u8 D0 c0 bst.1 (by omega) wr.drew ((hrd0.below hb0 (Nat.le_refl _)).more hb0.size))
      have HY := hide (fun (w5 : World) (hb5 : Below wr.drew.heap.size wr.drew w5) => (show w5.cell? ⟨w.heap.size, 1, none⟩ = some (.slice D0 bst.1.length c0) ∧ w5.cell? ⟨w.heap.size, 2, none⟩ = some (.int .u64 (bst.2 : Nat)) from
        ⟨(Blk.on (Blk.drew hbk0) hb5).cell (i := 1) rfl, (Blk.on (Blk.drew hbk0) hb5).cell (i := 2) rfl⟩))
      have y1 := hbk0.cell (i := 1) rfl
      have y2 := hbk0.cell (i := 2) rfl
      have HB0 : Hid (Below w.heap.size w wr.drew) := hb0.drew
      clear hbk0 hrd0 hb0 hrel hbst hbl hlt hk
      go_wp2
      go_region_held3 (fun W => W.cell? ⟨w.heap.size, 1, none⟩ = some (.slice D0 bst.1.length c0) ∧ W.cell? ⟨w.heap.size, 2, none⟩ = some (.int .u64 (bst.2 : Nat))) (first
          | exact HY.out _ hb5
          | go_keep)
        ((first
          | (go_at_call 55; (with_reducible refine HJ.out.mono ?_); rintro e w5 ⟨A5, c5, rfl, ho5, hb5⟩)))
      go_wp2
      go_ret2
      unfold BestR
      rw [← HBST.out]
      exact ⟨A5, c5, rfl, own_down ho5 HB0.out.size, below2 HB0.out hb5 (Nat.le_refl _)⟩
end
set_option maxRecDepth 100000 in
set_option maxHeartbeats 4000000 in
theorem alike18 {w : World} {B B2 gt gr : Nat} {s : List Trow} {F G : Nat → Prop} (h : Ta w B gt s F) (hr : RTa w B2 gr s G) (hT : tot s ≤ 1000000) :
    Calls Try.prog 51 #[.pointer (some ⟨gt, 0, none⟩), .pointer (some ⟨gr, 0, none⟩)] w fun e w' => e = .returned (.bool true) ∧ Below w.heap.size w w' := by
  have HRW := hide (ta_rows h hT)
  have hlen : s.length ≤ 1000000 := Nat.le_trans h.ok.len hT
  have HR := hide hr
  unfold RowsR at HRW
  clear h hr
  go_enter Try.func51, Try.ntmps51
  go_wp2_with fail
  refine HRW.out.mono ?_; rintro e w1 ⟨V, cV, F1, rfl, hr1, hf1, hb1⟩
  obtain ⟨V2, cV2, hrr⟩ := HR.out.on hb1
  have HRR := hide hrr
  have HR1 := hide hr1
  have HB1 := hide hb1
  have c0 := hrr.blk.cell (i := 0) rfl
  have n0 : ((s.length : Int) != (s.length : Int)) = false := by simp
  clear hrr hr1 hf1 hb1 HRW
  go_wp2
  clear c0 n0
  go_loopw [6] (fun i wr => ∃ k : Nat, k ≤ s.length ∧ i = .int .i64 k ∧ Hid (Below w1.heap.size w1 wr)) (fun i _ => s.length - (intOf i).toNat)
  case atStart => exact ⟨0, Nat.zero_le _, rfl, Below.refl _ _⟩
  case round =>
    obtain ⟨k, hk, rfl, HB⟩ := hrel
    by_cases hlt : k < s.length
    · obtain ⟨⟨rl, rm, rc⟩, hr⟩ : ∃ r, s[k]? = some r := ⟨_, List.getElem?_eq_getElem hlt⟩
      have hrm : rm.length ≤ 9223372036854775807 := by have := (HRR.out.ok _ (List.mem_of_getElem? hr)).2.2.1; dsimp only at this; omega
      obtain ⟨b1, D1, cD1, hVe1, hbl1, _, p0, p1, p2, _, hrd1, _⟩ := HR1.out.get hr
      obtain ⟨b2, D2, cD2, hVe2, hbl2, _, q0, q1, q2, _, hrd2, _⟩ := HRR.out.rows.get hr
      dsimp only at p0 p1 p2 q0 q1 q2 hrd1 hrd2
      subst hVe1 hVe2
      have HC := hide (fun (W : World) (hb : Below w1.heap.size w1 W) => (show (W.cell? ⟨b1, k * 3, none⟩ = some (.int .i64 rl) ∧ W.cell? ⟨b1, k * 3 + 1, none⟩ = some (.slice D1 rm.length cD1) ∧ W.cell? ⟨b1, k * 3 + 2, none⟩ = some (.int .u64 (rc : Nat))) ∧ (W.cell? ⟨gr, 0, none⟩ = some (.slice (some ⟨b2, 0, none⟩) s.length cV2) ∧ W.cell? ⟨b2, k * 3, none⟩ = some (.int .i64 rl) ∧ W.cell? ⟨b2, k * 3 + 1, none⟩ = some (.slice D2 rm.length cD2) ∧ W.cell? ⟨b2, k * 3 + 2, none⟩ = some (.int .u64 (rc : Nat))) from
        ⟨⟨(hb.cell (p := ⟨b1, k * 3, none⟩) hbl1).trans p0, (hb.cell (p := ⟨b1, k * 3 + 1, none⟩) hbl1).trans p1, (hb.cell (p := ⟨b1, k * 3 + 2, none⟩) hbl1).trans p2⟩,
         (HRR.out.blk.on hb).cell (i := 0) rfl, (hb.cell (p := ⟨b2, k * 3, none⟩) hbl2).trans q0, (hb.cell (p := ⟨b2, k * 3 + 1, none⟩) hbl2).trans q1, (hb.cell (p := ⟨b2, k * 3 + 2, none⟩) hbl2).trans q2⟩))
      have c0 := HC.out _ HB.out.drew
      have HS := hide (same_eq (c := cD1) (d := cD2) (w := wr.drew) (hrd1.on HB.out.drew) (hrd2.on HB.out.drew) hrm)
      have n1 : (rl != rl) = false := by simp
      have n2 : ((rc : Int) != (rc : Int)) = false := by simp
      have g0 : (0 : Int) ≤ (k : Int) := by omega
      have g1 : (k : Int) < (s.length : Int) := by omega
      clear hr p0 p1 p2 q0 q1 q2 hrd1 hrd2 hbl1 hbl2 hrm
      go_wp2
      go_region_held3 (fun W => (W.cell? ⟨b1, k * 3, none⟩ = some (.int .i64 rl) ∧ W.cell? ⟨b1, k * 3 + 1, none⟩ = some (.slice D1 rm.length cD1) ∧ W.cell? ⟨b1, k * 3 + 2, none⟩ = some (.int .u64 (rc : Nat))) ∧ (W.cell? ⟨gr, 0, none⟩ = some (.slice (some ⟨b2, 0, none⟩) s.length cV2) ∧ W.cell? ⟨b2, k * 3, none⟩ = some (.int .i64 rl) ∧ W.cell? ⟨b2, k * 3 + 1, none⟩ = some (.slice D2 rm.length cD2) ∧ W.cell? ⟨b2, k * 3 + 2, none⟩ = some (.int .u64 (rc : Nat)))) (first
          | exact HC.out _ (below2 HB.out.drew hb5 (Nat.le_refl _))
          | exact c0
          | go_keep)
        ((first
          | (go_at_call 32; (with_reducible refine HS.out.mono ?_); rintro e w5 ⟨rfl, hb5⟩)))
      have HB5 := hide (below2 HB.out.drew hb5 (Nat.le_refl _))
      clear hb5
      go_wp2
      go_roundw
      case rel => exact ⟨k + 1, by omega, by go_num, HB5.out⟩
      case measure => simp [intOf]; omega
    · obtain rfl : k = s.length := by omega
      go_wp2
      go_ret
      exact ⟨rfl, below2 HB1.out HB.out (Nat.le_refl _)⟩
end Go.Proofs.Ytnbhgeodbpelgaa
