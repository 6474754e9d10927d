/- Layer 20: the law CallerGoes, walked. No conditions. -/
import Derived.Test.YtnbhgeodbpelgaaCalN
namespace Go.Proofs.Ytnbhgeodbpelgaa
open Go.RowKit
set_option linter.unusedVariables false
attribute [local go_sem ↓] Go.wp_at_zero Go.wp_at_succ

def KeepN (w wr : World) (gx : Nat) (s : Cst) : Prop := ∃ F, Cl wr w.heap.size gx 2 s F ∧ Below w.heap.size w wr
theorem KeepN.turn {w wr w' : World} {gx : Nat} {s s' : Cst} {F F' : Nat → Prop} (h : Cl wr w.heap.size gx 2 s F) (hb : Below w.heap.size w wr) (hm : Cl w' w.heap.size gx 2 s' F') (ht : Turn F F' wr w') : KeepN w w' gx s' :=
  ⟨F', hm, ht.below hb h.foot hb.size⟩
set_option maxRecDepth 100000 in
set_option maxHeartbeats 4000000 in
theorem goes_bad (b : Nat) (a t : Int) (w : World) (h : 30 < b ∨ a < 1 ∨ 30 < a ∨ t < 0 ∨ a < t) :
    Calls Try.prog 4 #[.int .u64 (b : Nat), .int .i64 a, .int .i64 t] w fun e w' => e = .returned (.bool true) ∧ Below w.heap.size w w' := by
  by_cases h1 : 30 < (b : Int)
  · clear h
    go_enter Try.func4, Try.ntmps4
    go_wp2_with fail
    refine (live20 _).mono ?_; rintro e w' ⟨rfl, hb⟩
    go_wp2
    go_ret
    exact ⟨rfl, hb⟩
  · by_cases h2 : a < 1
    · clear h
      go_enter Try.func4, Try.ntmps4
      go_wp2_with fail
      refine (live20 _).mono ?_; rintro e w' ⟨rfl, hb⟩
      go_wp2
      go_ret
      exact ⟨rfl, hb⟩
    · by_cases h3 : 30 < a
      · clear h
        go_enter Try.func4, Try.ntmps4
        go_wp2_with fail
        refine (live20 _).mono ?_; rintro e w' ⟨rfl, hb⟩
        go_wp2
        go_ret
        exact ⟨rfl, hb⟩
      · by_cases h4 : t < 0
        · clear h
          go_enter Try.func4, Try.ntmps4
          go_wp2_with fail
          refine (live20 _).mono ?_; rintro e w' ⟨rfl, hb⟩
          go_wp2
          go_ret
          exact ⟨rfl, hb⟩
        · have h5 : a < t := by omega
          clear h
          go_enter Try.func4, Try.ntmps4
          go_wp2_with fail
          refine (live20 _).mono ?_; rintro e w' ⟨rfl, hb⟩
          go_wp2
          go_ret
          exact ⟨rfl, hb⟩
set_option maxRecDepth 100000 in
set_option maxHeartbeats 4000000 in
theorem goes_in (b a t : Nat) (w : World) (hb : b ≤ 30) (ha : 1 ≤ a) (ha2 : a ≤ 30) (hta : t ≤ a) :
    Calls Try.prog 4 #[.int .u64 (b : Nat), .int .i64 (a : Nat), .int .i64 (t : Nat)] w fun e w' => e = .returned (.bool true) ∧ Below w.heap.size w w' := by
  have HCN := hide (cl_new 2 (by omega) (by omega) b (by omega) w)
  have kc := conv1
  go_enter Try.func4, Try.ntmps4
  go_wp2_with fail
  refine HCN.out.mono ?_; rintro e w1 ⟨gx, F1, rfl, hc1, hb1⟩
  have etb : topB b = false := topB_lt (by omega)
  have HC1 : Hid (Cl w1 w.heap.size gx 2 ⟨[], ⟨b, b, false⟩, 0, 0, 0⟩ F1) := by rw [← etb]; exact hc1
  have HB1 := hide hb1
  have HS1 : Hid (Calls Try.prog 17 #[.pointer (some ⟨gx, 0, none⟩), .slice (some ⟨w1.heap.size, 0, none⟩) 1 1] (w1.alloc (.cells #[.int .u8 97] 5 (1, 2))) fun e w' => ∃ F', e = .returned (.tuple #[.int .i64 0, .int .i64 0]) ∧ Cl w' w.heap.size gx 2 ⟨[[97]], ⟨b, b, false⟩, 1, 0, 0⟩ F' ∧ Turn F1 F' w1 w') := g_send HC1.out (by simp) 97
  clear hc1 hb1 HCN etb
  go_wp2_with fail
  refine HS1.out.mono ?_; rintro e w2 ⟨F2, rfl, hc2, ht2⟩
  have HC2 := hide hc2
  have HB2 := hide (ht2.below HB1.out HC1.out.foot HB1.out.size)
  have HS2 : Hid (Calls Try.prog 17 #[.pointer (some ⟨gx, 0, none⟩), .slice (some ⟨w2.heap.size, 0, none⟩) 1 1] (w2.alloc (.cells #[.int .u8 98] 5 (1, 2))) fun e w' => ∃ F', e = .returned (.tuple #[.int .i64 1, .int .i64 0]) ∧ Cl w' w.heap.size gx 2 (gS b b 0) F' ∧ Turn F2 F' w2 w') := g_send HC2.out (by simp) 98
  clear hc2 ht2 HS1
  go_wp2_with fail
  refine HS2.out.mono ?_; rintro e w3 ⟨F3, rfl, hc3, ht3⟩
  have HK3 : Hid (KeepN w w3 gx (gS b b 0)) := KeepN.turn HC2.out HB2.out hc3 ht3
  clear hc3 ht3 HS2 kc
  go_wp2_with fail
  refine (num20 _ _).mono ?_; rintro e w' ⟨rfl, rfl⟩
  go_wp2_with fail
  refine (num20 _ _).mono ?_; rintro e w' ⟨rfl, rfl⟩
  go_wp2_with fail
  refine (num20 _ _).mono ?_; rintro e w' ⟨rfl, rfl⟩
  go_wp2
  go_loopw [13] (fun i wr => ∃ k : Nat, k ≤ a + b + 1 ∧ i = .int .i64 k ∧ Hid (KeepN w wr gx (gS b (b + k) 0))) (fun i _ => a + b + 1 - (intOf i).toNat)
  case atStart => exact ⟨0, Nat.zero_le _, rfl, HK3.out⟩
  case round =>
    obtain ⟨k, hk, rfl, hrel⟩ := hrel
    obtain ⟨F, hm, hbw⟩ := hrel.out
    have HM := hide hm
    have HBW := hide hbw
    clear hrel hm hbw HK3
    by_cases hlt : k < a + b + 1
    · have HT := hide (g_tick HM.out (by omega))
      go_wp2_with fail
      refine HT.out.mono ?_; rintro e w5 ⟨A5, c5, F5, rfl, hm5, ht5⟩
      have HK5 := hide (KeepN.turn HM.out HBW.out hm5 ht5)
      clear hm5 ht5 HT
      go_wp2
      go_roundw
      case rel => exact ⟨k + 1, by omega, by go_num, HK5.out⟩
      case measure => simp [intOf]; omega
    · have HK6 : Hid (KeepN w wr gx (gS b (b + (a + b + 1) - 0) 0)) := by
        rw [show k = a + b + 1 by omega] at HM
        exact ⟨F, HM.out, HBW.out⟩
      clear HM HBW hk
      go_wp2
      clear hlt
      go_loopw [14] (fun i wr => ∃ k : Nat, k ≤ t ∧ i = .int .i64 k ∧ Hid (KeepN w wr gx (gS b (b + (a + b + 1) - k) 0))) (fun i _ => t - (intOf i).toNat)
      case atStart => exact ⟨0, Nat.zero_le _, rfl, HK6.out⟩
      case round =>
        obtain ⟨k, hk, rfl, hrel⟩ := hrel
        obtain ⟨F, hm, hbw⟩ := hrel.out
        have HM := hide hm
        have HBW := hide hbw
        clear hrel hm hbw HK6
        by_cases hlt : k < t
        · have HT := hide (g_other HM.out (by omega) (by omega))
          go_wp2_with fail
          refine HT.out.mono ?_; rintro e w5 ⟨A5, c5, F5, rfl, hm5, ht5⟩
          rw [show b + (a + b + 1) - k - 1 = b + (a + b + 1) - (k + 1) by omega] at hm5
          have HK5 := hide (KeepN.turn HM.out HBW.out hm5 ht5)
          clear hm5 ht5 HT
          go_wp2
          go_roundw
          case rel => exact ⟨k + 1, by omega, by go_num, HK5.out⟩
          case measure => simp [intOf]; omega
        · obtain rfl : k = t := by omega
          have HK6 : Hid (KeepN w wr gx (gS b (b + (a + b + 1) - k - 0) 0)) := ⟨F, HM.out, HBW.out⟩
          clear HM HBW hk hlt
          go_wp2
          go_loopw [15] (fun i wr => ∃ j : Nat, j ≤ b ∧ i = .int .u64 j ∧ Hid (KeepN w wr gx (gS b (b + (a + b + 1) - k - j) j))) (fun i _ => b - (intOf i).toNat)
          case atStart => exact ⟨0, Nat.zero_le _, rfl, HK6.out⟩
          case round =>
            obtain ⟨j, hj, rfl, hrel⟩ := hrel
            obtain ⟨F, hm, hbw⟩ := hrel.out
            have HM := hide hm
            have HBW := hide hbw
            clear hrel hm hbw HK6
            by_cases hlt : j < b
            · have HT := hide (g_few HM.out (by omega) (by omega) hb)
              go_wp2_with fail
              refine HT.out.mono ?_; rintro e w5 ⟨A5, c5, F5, rfl, hm5, ht5⟩
              rw [show b + (a + b + 1) - k - j - 1 = b + (a + b + 1) - k - (j + 1) by omega] at hm5
              have HK5 := hide (KeepN.turn HM.out HBW.out hm5 ht5)
              clear hm5 ht5 HT
              go_wp2
              go_roundw
              case rel => exact ⟨j + 1, by omega, by go_num, HK5.out⟩
              case measure => simp [intOf]; omega
            · obtain rfl : j = b := by omega
              obtain ⟨o, ho⟩ : ∃ o, o = j + (a + j + 1) - k - j := ⟨_, rfl⟩
              have ho0 : 0 < o := by omega
              rw [← ho] at HM
              have HST : Hid (Calls Try.prog 27 #[.pointer (some ⟨gx, 0, none⟩)] wr fun e w' => e = .returned (.agg #[.int .i64 2, .int .i64 0, .int .u64 (o : Int), .int .u64 (j : Int), .int .u64 (j : Nat), .bool false]) ∧ Below wr.heap.size wr w') := g_state HM.out
              have hfd : ∀ w : World, (Instr.field 52 (.agg #[.int .i64 2, .int .i64 0, .int .u64 (o : Int), .int .u64 (j : Int), .int .u64 (j : Nat), .bool false]) 1).run Try.prog w = .ok (.int .i64 0) w := fun _ => by kernel_rfl
              clear ho hj hlt
              go_wp2_with fail
              refine HST.out.mono ?_; rintro e w5 ⟨rfl, hb5⟩
              have HM5 := hide (HM.out.on hb5)
              have HB5 := hide (below2 HBW.out hb5 (Nat.le_refl _))
              have HT := hide (g_goes HM5.out ho0 hb)
              clear hb5 HST HM HBW
              go_wp2_with fail
              refine HT.out.mono ?_; rintro e w6 ⟨A6, c6, F6, rfl, hm6, ht6⟩
              have HM6 := hide hm6
              have HB6 := hide (ht6.below HB5.out HM5.out.foot HB5.out.size)
              obtain ⟨o1, ho1⟩ : ∃ o1, o1 = o - 1 := ⟨_, rfl⟩
              rw [← ho1] at HM6
              have HST : Hid (Calls Try.prog 27 #[.pointer (some ⟨gx, 0, none⟩)] w6 fun e w' => e = .returned (.agg #[.int .i64 2, .int .i64 1, .int .u64 (o1 : Int), .int .u64 (o1 : Int), .int .u64 0, .bool false]) ∧ Below w6.heap.size w6 w') := g_state HM6.out
              clear hm6 ht6 HT HM5 HB5 ho1 ho0
              go_wp2_with fail
              refine HST.out.mono ?_; rintro e w7 ⟨rfl, hb7⟩
              obtain ⟨w8, hw8⟩ : ∃ w8, w8 = w7.alloc (.cells #[.int .i64 2, .int .i64 1, .int .u64 (o1 : Int), .int .u64 (o1 : Int), .int .u64 0, .bool false] 52) := ⟨_, rfl⟩
              have HX8 : Hid (Blk w8 w7.heap.size 52 [.int .i64 2, .int .i64 1, .int .u64 (o1 : Int), .int .u64 (o1 : Int), .int .u64 0, .bool false]) := by rw [hw8]; exact Blk.new w7 _ _
              have hb78 : Below w7.heap.size w7 w8 := by rw [hw8]; exact (Below.refl _ _).alloc (Nat.le_refl _) _
              have HM8 := hide ((HM6.out.on hb7).on hb78)
              have HB8 := hide (below2 (below2 HB6.out hb7 (Nat.le_refl _)) hb78 (Nat.le_refl _))
              have HNF : Hid (¬ F6 w7.heap.size) := fun hf => by have := (HM6.out.foot _ hf).2; have := hb7.size; omega
              have HW8 := hide hw8
              have HQ := hide (g_asked HM8.out)
              clear hb7 hb78 hw8 HST HM6 HB6
              go_wp2_with fail
              rw [← HW8.out]
              refine HQ.out.mono ?_; rintro e w9 ⟨A9, c9, F9, rfl, hp9, hm9, ht9⟩
              have HP9 := hide hp9
              have HM9 := hide hm9
              have HB9 := hide (ht9.below HB8.out HM8.out.foot HB8.out.size)
              have hx9 := HX8.out.kept (ht9.block _ HX8.out.lt HNF.out)
              have x1 := hx9.cell (i := 1) rfl
              have x2 := hx9.cell (i := 2) rfl
              have x3 := hx9.cell (i := 3) rfl
              have x4 := hx9.cell (i := 4) rfl
              have n1 : ((o1 : Int) == (o1 : Int)) = true := by simp
              obtain ⟨w10, hw10⟩ : ∃ w10, w10 = w9.alloc (.cells #[.int .u8 98] 5 (1, 2)) := ⟨_, rfl⟩
              have HB910 : Hid (Below w9.heap.size w9 w10) := by rw [hw10]; exact (Below.refl _ _).alloc (Nat.le_refl _) _
              have HR10 : Hid (Rd w10.heap.size w10 (some ⟨w9.heap.size, 0, none⟩) (u8s [98])) := by rw [hw10]; exact rd_lit1 w9 98
              have kc := conv1
              have HS1 := hide (prbs_sameN (c := c9) (d := 1) (n := 1) rfl (HP9.out.on (below2 HB910.out ((Below.refl w10.heap.size w10).alloc (Nat.le_refl _) (.cells #[.int .i64 3, .int .i64 1, .slice (some ⟨w9.heap.size, 0, none⟩) 1 1] 36)) (Nat.le_refl _)))
                (prbs_one (P := fun _ => True) w10 3 1 (some ⟨w9.heap.size, 0, none⟩) 1 [98] 36 trivial HR10.out (by simp) (fun _ _ _ _ _ => trivial)) (by omega))
              have hsz : w10.heap.size = w9.heap.size + 1 := by rw [hw10]; simp
              have HB11 := hide (fun w' (h : Below (w10.alloc (.cells #[.int .i64 3, .int .i64 1, .slice (some ⟨w9.heap.size, 0, none⟩) 1 1] 36)).heap.size (w10.alloc (.cells #[.int .i64 3, .int .i64 1, .slice (some ⟨w9.heap.size, 0, none⟩) 1 1] 36)) w') => below2 HB9.out (below2 HB910.out (below2 ((Below.refl w10.heap.size w10).alloc (Nat.le_refl _) _) h (by simp)) (Nat.le_refl _)) (Nat.le_refl _))
              rw [hsz] at HS1
              clear HR10 HB910 hp9 hm9 ht9 hx9 HQ
              subst hw10
              clear hsz
              go_wp2_with fail
              refine HS1.out.mono ?_; rintro e w12 ⟨rfl, hb12⟩
              have HB12 := hide (HB11.out _ hb12)
              clear hb12 kc x1 x2 x3 x4
              go_wp2_with fail
              refine (live20 _).mono ?_; rintro e w' ⟨rfl, hbl⟩
              have HBL := hide (below2 HB12.out hbl (Nat.le_refl _))
              clear hbl
              go_wp2
              go_ret
              exact ⟨rfl, HBL.out⟩
theorem walk_CallerGoes (w : World) (b : Nat) (hb : b < 18446744073709551616) (a : Int) (ha : Fit a) (t : Int) (ht : Fit t) :
    Calls Try.prog 4 #[.int .u64 (b : Nat), .int .i64 a, .int .i64 t] w fun e w' => e = .returned (.bool true) ∧ Below w.heap.size w w' := by
  by_cases h : 30 < b ∨ a < 1 ∨ 30 < a ∨ t < 0 ∨ a < t
  · exact goes_bad b a t w h
  · obtain ⟨a, rfl⟩ := Int.eq_ofNat_of_zero_le (show 0 ≤ a by omega)
    obtain ⟨t, rfl⟩ := Int.eq_ofNat_of_zero_le (show 0 ≤ t by omega)
    exact goes_in b a t w (by omega) (by omega) (by omega) (by omega)
end Go.Proofs.Ytnbhgeodbpelgaa
