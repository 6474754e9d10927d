/- Layer 21's reference hearer: Take of a telling that counts; Take whole. No conditions. -/
import Derived.Test.YtnbhgeodbpelgaaHeM
import Derived.Deep.RegionLaw
import Derived.Deep.Cut
namespace Go.Proofs.Ytnbhgeodbpelgaa
open Go.RowKit
set_option linter.unusedVariables false
attribute [local go_sem ↓] Go.wp_at_zero Go.wp_at_succ

section
variable {w w' : World} {B gx gq gl gt room : Nat} {s : Hst} {F : Nat → Prop} {Fs : Nat → Nat → Prop}
set_option maxRecDepth 100000 in
set_option maxHeartbeats 8000000 in
theorem rhe_take3y (h : RHeAt w B gx gq gl gt room s F Fs) (hd : s.ent ≤ 1000000) (hT : tot s.t ≤ 900000) (lb : Int) (A : Option Addr) (c : Nat) (m : List Nat) (hA : Rd w.heap.size w A (u8s m)) (hAF : 0 < (u8s m).length → ∀ b o s', A = some ⟨b, o, s'⟩ → ¬ F b) (hm : Byt m) (hml : m.length ≤ 1000000) (hh : s.led.hearB = true) (hl : (lb == ((s.ent % 2 : Nat) : Int)) = true) :
    Calls Try.prog 39 #[.pointer (some ⟨gx, 0, none⟩), .agg #[.int .i64 3, .int .i64 lb, .slice A m.length c]] w (RHTellR w B gx room (enterS room { heardH s with t := addT s.t lb m }) F []) := by
  obtain ⟨w1, hw1⟩ : ∃ w1, w1 = w.alloc (.cells #[.int .i64 3, .int .i64 lb, .slice A m.length c] 36) := ⟨_, rfl⟩
  have HE1 : Hid (RHere w w1 B gx gq gl gt room s F F Fs 3 lb (.slice A m.length c)) := by rw [hw1]; exact h.rhere 3 lb _
  have HW1 := hide hw1
  have x0 : w1.cell? ⟨w.heap.size, 0, none⟩ = some (.int .i64 3) := HE1.out.x.cell (i := 0) rfl
  have m0 : w1.cell? ⟨gx, 1, none⟩ = some (.pointer (some ⟨gl, 0, none⟩)) ∧ w1.cell? ⟨gx, 3, none⟩ = some (.int .i64 (s.ent : Nat)) ∧ w1.cell? ⟨w.heap.size, 1, none⟩ = some (.int .i64 lb) := ⟨HE1.out.m.cells.2.1, HE1.out.m.cells.2.2.2.1, HE1.out.x.cell (i := 1) rfl⟩
  have HHE := hide (rled_hear _ gl s.led HE1.out.drew.m.l HE1.out.drew.m.ok)
  have hlb : lb = ((s.ent % 2 : Nat) : Int) := by simpa using hl
  have b2 : (lb == (s.ent : Int) % 2) = true := by rw [beq_iff_eq]; omega
  have b3 : (lb == (s.ent : Int).tmod 2) = true := by rw [Int.tmod_eq_emod_of_nonneg (by omega)]; exact b2
  have hlf : Fit lb := by rw [hlb]; unfold Fit; omega
  have HLF := hide hlf
  have HRD := hide (And.intro hA hAF)
  have HBY := hide (And.intro hm hml)
  rw [hh] at HHE
  unfold RHTellR
  clear h hw1 hh hl hlb hlf hA hAF hm hml
  go_enter Try.func39, Try.ntmps39
  go_upto_region 1 with (fail)
  rw [← HW1.out]
  go_upto_region 7 with (fail)
  clear x0
  go_region_held3 (fun W => W.cell? ⟨gx, 1, none⟩ = some (.pointer (some ⟨gl, 0, none⟩)) ∧ W.cell? ⟨gx, 3, none⟩ = some (.int .i64 (s.ent : Nat)) ∧ W.cell? ⟨w.heap.size, 1, none⟩ = some (.int .i64 lb)) (first
      | exact hn
      | exact m0
      | go_keep)
    ((first
      | (go_at_call 74; (with_reducible refine HHE.out.mono ?_); rintro e w4 ⟨rfl, hl4, hg4⟩; obtain ⟨F2, Fs2, h2⟩ := HE1.out.drew.hear hl4 hg4; have hn : w4.cell? ⟨gx, 1, none⟩ = some (.pointer (some ⟨gl, 0, none⟩)) ∧ w4.cell? ⟨gx, 3, none⟩ = some (.int .i64 (s.ent : Nat)) ∧ w4.cell? ⟨w.heap.size, 1, none⟩ = some (.int .i64 lb) := ⟨h2.m.cells.2.1, h2.m.cells.2.2.2.1, h2.x.cell (i := 1) rfl⟩)))
  have H2 := hide h2
  have HAD := hide (rta_add h2.drew.m.t (by show tot s.t ≤ _; omega) lb HLF.out A c m (rd_turn HRD.out.1 HRD.out.2 h2.tu.drew) HBY.out.1 HBY.out.2)
  unfold RAddR at HAD
  have d2 := h2.m.cells.2.2.1
  have dx := h2.x.cell (i := 1) rfl
  have dy := h2.x.cell (i := 2) rfl
  clear h2 hn hl4 hg4 HHE b2 b3 m0
  go_wp2
  go_still_tail 8, (by kernel_rfl)
  change wpList _ _ _ _ _ w4.drew
  go_wp2_with fail
  refine HAD.out.mono ?_; rintro e w6 ⟨F6, rfl, ht6, hu6⟩
  obtain ⟨F7, Fs7, h7, t7⟩ := H2.out.drew.m.tal ht6 hu6
  have HEN := hide (rhe_enter h7 hd (by show tot (addT s.t lb m) ≤ _; rw [tot_add]; omega))
  have T7 := hide (H2.out.drew.tu.trans t7)
  unfold REnterR at HEN
  clear ht6 hu6 h7 t7 HAD d2 dx dy
  go_wp2_with fail
  refine HEN.out.mono ?_; rintro e w8 ⟨rfl, gt8, F8, Fs8, h8, t8⟩
  have H8 := hide h8
  have T8 := hide (T7.out.trans t8)
  clear h8 t8 HEN
  go_wp2
  go_ret
  exact ⟨none, 0, F8, rfl, Prbs.nil _ _ _, ⟨_, _, _, _, H8.out⟩, T8.out⟩
theorem rhe_take (h : RHeAt w B gx gq gl gt room s F Fs) (hd : s.ent ≤ 1000000) (hT : tot s.t ≤ 900000) (k lb : Int) (A : Option Addr) (c : Nat) (m : List Nat) (hA : Rd w.heap.size w A (u8s m)) (hAF : 0 < (u8s m).length → ∀ b o s', A = some ⟨b, o, s'⟩ → ¬ F b) (hm : Byt m) (hml : s.led.hearB = true → m.length ≤ 1000000) :
    Calls Try.prog 39 #[.pointer (some ⟨gx, 0, none⟩), .agg #[.int .i64 k, .int .i64 lb, .slice A m.length c]] w (RHTellR w B gx room (takeHS room s k lb m) F (takeHT s k)) := by
  by_cases hk1 : k = 1
  · subst hk1; exact rhe_take1 h hd lb A c m
  by_cases hk2 : k = 2
  · subst hk2; exact rhe_take2 h lb A c m
  by_cases hk3 : k = 3
  · subst hk3
    have e2 : takeHT s 3 = [] := by unfold takeHT; rw [if_neg (by decide)]
    rw [e2]
    unfold takeHS
    rw [if_neg (by decide), if_pos rfl]
    cases hh : s.led.hearB with
    | false => rw [if_neg (by simp)]; exact rhe_take3n h hd lb A c m hh
    | true =>
      cases hl : (lb == ((s.ent % 2 : Nat) : Int)) with
      | false => rw [if_neg (by simp)]; exact rhe_take3f h hd lb A c m hh hl
      | true => rw [if_pos (by simp)]; exact rhe_take3y h hd hT lb A c m hA hAF hm (hml hh) hh hl
  exact rhe_take0 h k lb hk1 hk2 hk3 A c m
end
end Go.Proofs.Ytnbhgeodbpelgaa
