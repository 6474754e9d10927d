/- Layer 20's live. No conditions. -/
import Derived.Test.YtnbhgeodbpelgaaCalK
import Derived.Test.YtnbhgeodbpelgaaQueS
namespace Go.Proofs.Ytnbhgeodbpelgaa
open Go.RowKit
set_option linter.unusedVariables false
attribute [local go_sem ↓] Go.wp_at_zero Go.wp_at_succ

theorem prbs_sameN {P P' : Nat → Prop} {A C : Option Addr} {c d n : Nat} {ts : List Prb} {w : World} (hn : ts.length = n) (hA : Prbs P w A ts) (hC : Prbs P' w C ts) (hl : n ≤ 9223372036854775807) :
    Calls Try.prog 19 #[.slice A n c, .slice C n d] w fun e w' => e = .returned (.bool true) ∧ Below w.heap.size w w' := by
  subst hn
  exact prbs_same hA hC hl
/-- packets stay while an object that they are off turns, and are off it still. -/
theorem Prbs.turned {P F F' : Nat → Prop} {w w' : World} {A : Option Addr} {ts : List Prb} (h : Prbs P w A ts) (hP : ∀ b, P b → ¬ F b) (ht : Turn F F' w w') : Prbs (fun k => ¬ F' k) w' A ts :=
  ((h.imp (P' := fun k => ¬ F k ∧ k < w.heap.size) (fun b hb hl => ⟨hP b hb, hl⟩)).kept (fun b hb hl => ht.block b hl hb.1) ht.size).imp (fun b hb _ => fun hf => (ht.new b hf).elim hb.1 (by omega))
/-- the states of the page's example. -/
def c20a : Cst := ⟨[], ⟨0, 0, false⟩, 0, 0, 0⟩
def c20b : Cst := ⟨[[97]], ⟨0, 0, false⟩, 1, 0, 0⟩
def c20c : Cst := ⟨[[97]], ⟨1, 0, false⟩, 1, 0, 0⟩
def c20d : Cst := ⟨[], ⟨0, 0, false⟩, 1, 1, 1⟩
set_option maxRecDepth 100000 in
set_option maxHeartbeats 4000000 in
theorem live20 (w : World) : Calls Try.prog 13 #[] w fun e w' => e = .returned (.bool true) ∧ Below w.heap.size w w' := by
  have HCN := hide (cl_new 2 (by omega) (by omega) 0 (by omega) w)
  have kc := conv1
  go_enter Try.func13, Try.ntmps13
  go_wp2_with fail
  refine HCN.out.mono ?_; rintro e w1 ⟨gx, F1, rfl, hc1, hb1⟩
  have HB1 := hide hb1
  have HC1 : Hid (Cl w1 w.heap.size gx 2 c20a F1) := hc1
  have HBA := hide ((Below.refl w1.heap.size w1).alloc (Nat.le_refl _) (.cells #[.int .u8 97] 5 (1, 2)))
  have HF1 := hide (HC1.out.on HBA.out).foot
  have HSD : Hid (Calls Try.prog 17 #[.pointer (some ⟨gx, 0, none⟩), .slice (some ⟨w1.heap.size, 0, none⟩) 1 1] (w1.alloc (.cells #[.int .u8 97] 5 (1, 2))) fun e w' => ∃ F', e = .returned (.tuple #[.int .i64 0, .int .i64 0]) ∧ Cl w' w.heap.size gx 2 c20b F' ∧ Turn F1 F' (w1.alloc (.cells #[.int .u8 97] 5 (1, 2))) w') := by
    obtain ⟨gq, gl, Fs, h⟩ := HC1.out.on HBA.out
    exact cl_send h (by simp [c20a]) (some ⟨w1.heap.size, 0, none⟩) 1 [97] (rd_lit1 w1 97)
  clear hc1 hb1 HCN
  go_wp2_with fail
  refine HSD.out.mono ?_; rintro e w2 ⟨F2, rfl, hc2, ht2⟩
  have HC2 := hide hc2
  have HB2 := hide (ht2.below (below2 HB1.out HBA.out (Nat.le_refl _)) HF1.out (Nat.le_trans HB1.out.size HBA.out.size))
  have HT : Hid (Calls Try.prog 22 #[.pointer (some ⟨gx, 0, none⟩), .agg #[.int .i64 0, .int .i64 0, .slice none 0 0]] w2 fun e w' => ∃ A c F', e = .returned (.slice A 1 c) ∧ Prbs (fun k => w2.heap.size ≤ k ∧ ¬ F' k) w' A [(3, 0, [97])] ∧ Cl w' w.heap.size gx 2 c20b F' ∧ Turn F2 F' w2 w') := by
    obtain ⟨gq, gl, Fs, h⟩ := HC2.out
    exact cl_take h (by simp [c20b]) (by simp [c20b]) 0 0 none 0 0
  clear hc2 ht2 HSD kc
  go_wp2_with fail
  refine HT.out.mono ?_; rintro e w3 ⟨A3, c3, F3, rfl, hp3, hc3, ht3⟩
  have HC3 := hide hc3
  have HP3 := hide hp3
  have HB3 := hide (ht3.below HB2.out HC2.out.foot HB2.out.size)
  have HK : Hid (Calls Try.prog 20 #[.pointer (some ⟨gx, 0, none⟩)] w3 fun e w' => ∃ A c F', e = .returned (.slice A 1 c) ∧ Prbs (fun k => w3.heap.size ≤ k ∧ ¬ F' k) w' A [(1, 0, [])] ∧ Cl w' w.heap.size gx 2 c20c F' ∧ Turn F3 F' w3 w') := by
    obtain ⟨gq, gl, Fs, h⟩ := HC3.out
    exact cl_tick h
  clear hp3 hc3 ht3 HT
  go_wp2_with fail
  refine HK.out.mono ?_; rintro e w4 ⟨A4, c4, F4, rfl, _, hc4, ht4⟩
  have HC4 := hide hc4
  have HP4 := hide (HP3.out.turned (fun _ h => h.2) ht4)
  have HB4 := hide (ht4.below HB3.out HC3.out.foot HB3.out.size)
  have HA : Hid (Calls Try.prog 22 #[.pointer (some ⟨gx, 0, none⟩), .agg #[.int .i64 4, .int .i64 0, .slice none 0 0]] w4 fun e w' => ∃ A c F', e = .returned (.slice A 0 c) ∧ Prbs (fun k => w4.heap.size ≤ k ∧ ¬ F' k) w' A [] ∧ Cl w' w.heap.size gx 2 c20d F' ∧ Turn F4 F' w4 w') := by
    obtain ⟨gq, gl, Fs, h⟩ := HC4.out
    exact cl_take h (by simp [c20c]) (by simp [c20c]) 4 0 none 0 0
  clear hc4 ht4 HK
  go_wp2_with fail
  refine HA.out.mono ?_; rintro e w5 ⟨A5, c5, F5, rfl, _, hc5, ht5⟩
  have HC5 := hide hc5
  have HP5 := hide (HP4.out.turned (fun _ h => h) ht5)
  have HB5 := hide (ht5.below HB4.out HC4.out.foot HB4.out.size)
  have HO : Hid (Calls Try.prog 24 #[.pointer (some ⟨gx, 0, none⟩), .int .i64 0] w5 fun e w' => e = .returned (.tuple #[.int .i64 1, .int .i64 0]) ∧ w5 = w') := by
    obtain ⟨gq, gl, Fs, h⟩ := HC5.out
    exact cl_poll h 0
  clear hc5 ht5 HA
  go_wp2_with fail
  refine HO.out.mono ?_; rintro e w' ⟨rfl, rfl⟩
  go_wp2_with fail
  refine (num20 _ _).mono ?_; rintro e w' ⟨rfl, rfl⟩
  go_wp2_with fail
  refine (num20 _ _).mono ?_; rintro e w' ⟨rfl, rfl⟩
  go_wp2_with fail
  refine (num20 _ _).mono ?_; rintro e w' ⟨rfl, rfl⟩
  obtain ⟨w6, hw6⟩ : ∃ w6, w6 = w5.alloc (.cells #[.int .u8 97] 5 (1, 2)) := ⟨_, rfl⟩
  have HB56 : Hid (Below w5.heap.size w5 w6) := by rw [hw6]; exact (Below.refl _ _).alloc (Nat.le_refl _) _
  have HR6 : Hid (Rd w6.heap.size w6 (some ⟨w5.heap.size, 0, none⟩) (u8s [97])) := by rw [hw6]; exact rd_lit1 w5 97
  have kc := conv1
  have HS1 := hide (prbs_sameN (c := c3) (d := 1) (n := 1) rfl (HP5.out.on (below2 HB56.out ((Below.refl w6.heap.size w6).alloc (Nat.le_refl _) (.cells #[.int .i64 3, .int .i64 0, .slice (some ⟨w5.heap.size, 0, none⟩) 1 1] 36)) (Nat.le_refl _)))
    (prbs_one (P := fun _ => True) w6 3 0 (some ⟨w5.heap.size, 0, none⟩) 1 [97] 36 trivial HR6.out (by simp) (fun _ _ _ _ _ => trivial)) (by omega))
  have hsz6 : w6.heap.size = w5.heap.size + 1 := by rw [hw6]; simp
  have HB7 := hide (fun w7 (h : Below (w6.alloc (.cells #[.int .i64 3, .int .i64 0, .slice (some ⟨w5.heap.size, 0, none⟩) 1 1] 36)).heap.size (w6.alloc (.cells #[.int .i64 3, .int .i64 0, .slice (some ⟨w5.heap.size, 0, none⟩) 1 1] 36)) w7) => below2 HB5.out (below2 HB56.out (below2 ((Below.refl w6.heap.size w6).alloc (Nat.le_refl _) _) h (by simp)) (Nat.le_refl _)) (Nat.le_refl _))
  rw [hsz6] at HS1
  clear HR6 HB56
  subst hw6
  clear HO hsz6
  go_wp2_with fail
  refine HS1.out.mono ?_; rintro e w7 ⟨rfl, hb7⟩
  have HB8 := hide (HB7.out _ hb7)
  clear hb7 kc
  go_wp2
  go_ret
  exact ⟨rfl, HB8.out⟩
end Go.Proofs.Ytnbhgeodbpelgaa
