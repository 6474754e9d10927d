/- Layer 18: a nil tally; the law TallyApart, walked. No conditions. -/
import Derived.Test.YtnbhgeodbpelgaaTalG
import Derived.BigRegion
import Derived.Deep.Cut
namespace Go.Proofs.Ytnbhgeodbpelgaa
open Go.RowKit
set_option linter.unusedVariables false
attribute [local go_sem ↓] Go.wp_at_zero Go.wp_at_succ

section
variable (w : World)
theorem nil_isT : Calls Try.prog 87 #[.pointer none] w fun e w' => e = .returned (.bool false) ∧ w = w' := by
  go_enter Try.func87, Try.ntmps87
  go_wp2
  go_ret
  exact ⟨rfl, rfl⟩
theorem nil_clearT : Calls Try.prog 46 #[.pointer none] w fun e w' => e = .returned (.tuple #[]) ∧ w = w' := by
  go_enter Try.func46, Try.ntmps46
  go_wp2_with fail
  refine (nil_isT w).mono ?_; rintro e w' ⟨rfl, rfl⟩
  go_wp2
  go_returns
  exact ⟨rfl, rfl⟩
theorem nil_bestT (lb : Int) : Calls Try.prog 49 #[.pointer none, .int .i64 lb] w fun e w' => e = .returned (.tuple #[.slice none 0 0, .int .u64 0]) ∧ w = w' := by
  go_enter Try.func49, Try.ntmps49
  go_wp2_with fail
  refine (nil_isT w).mono ?_; rintro e w' ⟨rfl, rfl⟩
  go_wp2
  go_ret2
  exact ⟨rfl, rfl⟩
theorem nil_addT (lb : Int) (v : Value) : Calls Try.prog 47 #[.pointer none, .int .i64 lb, v] w fun e w' => e = .returned (.int .u64 0) ∧ w = w' := by
  go_enter Try.func47, Try.ntmps47
  go_wp2_with fail
  refine (nil_isT w).mono ?_; rintro e w' ⟨rfl, rfl⟩
  go_wp2
  go_ret
  exact ⟨rfl, rfl⟩
theorem nil_countT (lb : Int) (v : Value) : Calls Try.prog 52 #[.pointer none, .int .i64 lb, v] w fun e w' => e = .returned (.int .u64 0) ∧ w = w' := by
  go_enter Try.func52, Try.ntmps52
  go_wp2_with fail
  refine (nil_isT w).mono ?_; rintro e w' ⟨rfl, rfl⟩
  go_wp2
  go_ret
  exact ⟨rfl, rfl⟩
theorem nil_rowsT : Calls Try.prog 54 #[.pointer none] w fun e w' => e = .returned (.slice none 0 0) ∧ w = w' := by
  go_enter Try.func54, Try.ntmps54
  go_wp2_with fail
  refine (nil_isT w).mono ?_; rintro e w' ⟨rfl, rfl⟩
  go_wp2
  go_ret
  exact ⟨rfl, rfl⟩
end
set_option maxRecDepth 100000 in
set_option maxHeartbeats 2000000 in
theorem apart18_bad (w : World) (lb : Int) (A : Option Addr) (n c : Nat) (h : n = 0 ∨ 200 < n) :
    Calls Try.prog 11 #[.int .i64 lb, .slice A n c] w fun e w' => e = .returned (.bool true) ∧ Below w.heap.size w w' := by
  rcases h with rfl | h
  · go_enter Try.func11, Try.ntmps11
    go_wp2_with fail
    refine (nil_clearT w).mono ?_; rintro e w' ⟨rfl, rfl⟩
    go_wp2_with fail
    refine (nil_bestT w lb).mono ?_; rintro e w' ⟨rfl, rfl⟩
    go_wp2_with fail
    refine (nil_addT w lb _).mono ?_; rintro e w' ⟨rfl, rfl⟩
    go_wp2_with fail
    refine (nil_countT w lb _).mono ?_; rintro e w' ⟨rfl, rfl⟩
    go_wp2_with fail
    refine (nil_rowsT w).mono ?_; rintro e w' ⟨rfl, rfl⟩
    go_wp2_with fail
    refine (live18 _).mono ?_; rintro e w' ⟨rfl, hb⟩
    go_wp2
    go_ret
    exact ⟨rfl, hb⟩
  · have h0 : ((n : Int) == 0) = false := by rw [beq_eq_false_iff_ne]; omega
    have h1 : (200 : Int) < (n : Int) := by omega
    clear h
    go_enter Try.func11, Try.ntmps11
    go_wp2_with fail
    refine (nil_clearT w).mono ?_; rintro e w' ⟨rfl, rfl⟩
    go_wp2_with fail
    refine (nil_bestT w lb).mono ?_; rintro e w' ⟨rfl, rfl⟩
    go_wp2_with fail
    refine (nil_addT w lb _).mono ?_; rintro e w' ⟨rfl, rfl⟩
    go_wp2_with fail
    refine (nil_countT w lb _).mono ?_; rintro e w' ⟨rfl, rfl⟩
    go_wp2_with fail
    refine (nil_rowsT w).mono ?_; rintro e w' ⟨rfl, rfl⟩
    go_wp2_with fail
    refine (live18 _).mono ?_; rintro e w' ⟨rfl, hb⟩
    go_wp2
    go_ret
    exact ⟨rfl, hb⟩
set_option maxRecDepth 100000 in
set_option maxHeartbeats 4000000 in
theorem apart18_in (w : World) (lb : Int) (hfl : Fit lb) (A : Option Addr) (c : Nat) (l : List Nat) (hl : In8 w A c l) (h0 : 0 < l.length) (h200 : l.length ≤ 200) :
    Calls Try.prog 11 #[.int .i64 lb, .slice A l.length c] w fun e w' => e = .returned (.bool true) ∧ Below w.heap.size w w' := by
  have z0 : ((l.length : Int) == 0) = false := by rw [beq_eq_false_iff_ne]; omega
  have z1 : ¬ (200 : Int) < (l.length : Int) := by omega
  have z2 : (0 : Int) < (l.length : Int) := by omega
  have HL := hide hl
  have HFL := hide hfl
  clear hl hfl
  go_enter Try.func11, Try.ntmps11
  go_wp2_with fail
  refine (ta_new w).mono ?_; rintro e w1 ⟨gt, F1, rfl, h1, hb1⟩
  have HCP := hide (copy_u8 A c l (by omega) w1 (HL.out.rd.on hb1))
  have HH0 := hide (And.intro h0 h200)
  clear z0 z1 z2 h0 h200
  have HB1 := hide hb1
  have H1 := hide h1
  clear h1 hb1
  go_wp2_with fail
  refine HCP.out.mono ?_; rintro e w2 ⟨A2, c2, rfl, ho2, hb2⟩
  obtain ⟨g2, cg, hv2, hga, hgb⟩ := ho2.form HH0.out.1
  clear hga hgb
  injection hv2 with hA2 hq1 hq2
  clear hq1 hq2
  subst hA2
  have HAD := hide (ta_add (H1.out.on hb2) (by simp [tot]) lb HFL.out _ c2 l (own_rd ho2) HL.out.byt (by have := HH0.out.2; omega))
  unfold AddR at HAD
  have hs1 : addT [] lb l = [(lb, l, 1)] := rfl
  rw [hs1] at HAD
  obtain ⟨cv, hcv⟩ : ∃ v, v = cntT [(lb, l, 1)] lb l := ⟨_, rfl⟩
  rw [← hcv] at HAD
  have hg2 := own_lt ho2
  have hg2b := own_base ho2
  have HG2 : Hid (¬ F1 g2) := fun hf => by have := (H1.out.foot _ hf).2; omega
  have HO2 := hide ho2
  have HB2 := hide (below2 HB1.out hb2 (Nat.le_refl _))
  have HF1 := hide (H1.out.on hb2).foot
  have HGG := hide (And.intro hg2 (Nat.le_trans HB1.out.size hg2b))
  clear ho2 hb2 HCP hg2 hg2b hs1 hcv
  go_wp2_with fail
  refine HAD.out.mono ?_; rintro e w3 ⟨F3, rfl, h3, ht3⟩
  obtain ⟨x0, hx0⟩ : ∃ x0, l[0]? = some x0 := ⟨_, List.getElem?_eq_getElem HH0.out.1⟩
  have ho3 := own_keep HO2.out (fun k hk => by injection hk with hk; subst hk; exact ht3.block _ HGG.out.1 HG2.out)
  have q2 := own_cell ho3 (u8s_get hx0)
  have f2 := ho3.frozenAt 0
  have HNF3 : Hid (¬ F3 g2) := fun hf => (ht3.new _ hf).elim HG2.out (fun h => by have := HGG.out.1; omega)
  have HB3 := hide (ht3.below HB2.out HF1.out HB2.out.size)
  have H3 := hide h3
  have HX0 := hide hx0
  have z2 : (0 : Int) < (l.length : Int) := by have := HH0.out.1; omega
  clear h3 ht3 ho3 HAD hx0
  go_upto_region 10 with (fail)
  obtain ⟨w4, hw4⟩ : ∃ w4, w4 = w3.setCell ⟨g2, 0, none⟩ (.int .u8 (bits .xor .u8 (x0 : Int) 1)) := ⟨_, rfl⟩
  rw [← hw4]
  have HB4 : Hid (Below w.heap.size w w4) := by rw [hw4]; exact HB3.out.setCell (p := ⟨g2, 0, none⟩) HGG.out.2 _
  have H4 : Hid (Ta w4 w.heap.size gt [(lb, l, 1)] F3) := by
    rw [hw4]
    exact H3.out.kept (fun k hk => Below.heap_setCell w3 ⟨g2, 0, none⟩ _ k (fun e => HNF3.out (by have e' : k = g2 := e; rw [← e']; exact hk))) (by simp [World.setCell])
  have HBS := hide (ta_best H4.out (by simp [tot]) lb)
  rw [show bestT [(lb, l, 1)] lb = (l, 1) by simp [bestT, bestF]] at HBS
  unfold BestR at HBS
  dsimp only at HBS
  clear hw4 q2 f2
  go_wp2_with fail
  refine HBS.out.mono ?_; rintro e w5 ⟨A5, c5, rfl, ho5, hb5⟩
  obtain ⟨g5, cg5, hv5, hga, hgb⟩ := ho5.form HH0.out.1
  injection hv5 with hA5 hq1 hq2
  clear hq1 hq2 hga hgb
  subst hA5
  have HO5 := hide ho5
  have H5 := hide (H4.out.on hb5)
  have HB5 := hide (below2 HB4.out hb5 (Nat.le_refl _))
  have HRW := hide (ta_rows H5.out (by simp [tot]))
  have HG5 := hide (show ¬ F3 g5 ∧ g5 < w5.heap.size ∧ w.heap.size ≤ g5 from ⟨fun hf => by have := (H4.out.foot _ hf).2; have := own_base ho5; omega, own_lt ho5, Nat.le_trans HB4.out.size (own_base ho5)⟩)
  unfold RowsR at HRW
  clear ho5 hb5 HBS
  go_wp2_with fail
  refine HRW.out.mono ?_; rintro e w6 ⟨A6, c6, F6, rfl, hr6, hf6, hb6⟩
  obtain ⟨b, D, cD, rfl, hbl, hbF, _, q1, _, _, _, _⟩ := hr6.get (i := 0) (r := (lb, l, 1)) rfl
  have hox := hr6.owned (i := 0) (r := (lb, l, 1)) rfl rfl q1
  unfold OwnX at hox
  dsimp only at hox q1
  have HOD := hide hox
  obtain ⟨gd, cgd, hvd, hga, hgb⟩ := hox.form HH0.out.1
  injection hvd with hAd hq1 hq2
  clear hq1 hq2 hga hgb
  subst hAd
  obtain ⟨_, _, _, eV, _, _, _, q1b, _, _, _, hoff⟩ := hr6.get (i := 0) (r := (lb, l, 1)) rfl
  injection eV with eV
  injection eV with eV
  subst eV
  have eD := Option.some.inj (q1.symm.trans q1b)
  rw [← eD] at hoff
  obtain ⟨hd1, _, hdb⟩ := hoff gd rfl
  have HGD := hide (show ¬ F3 gd ∧ w.heap.size ≤ gd ∧ gd ≠ b ∧ g5 ≠ gd ∧ g5 ≠ b from
    ⟨fun hf => by have := (H5.out.foot _ hf).2; have := (hf6 gd hd1).1; omega, Nat.le_trans HB5.out.size (hf6 gd hd1).1, hdb, fun e => by have := (hf6 gd hd1).1; have := HG5.out.2.1; omega, fun e => by have := (hf6 b hbF.1).1; have := HG5.out.2.1; omega⟩)
  have hbl1 : w6.cell? ⟨b, 1, none⟩ = some (.slice (some ⟨gd, 0, none⟩) l.length cD) := q1
  have HQB := hide (And.intro hbl hbl1)
  have H6 := hide (H5.out.on hb6)
  have HB6 := hide (below2 HB5.out hb6 (Nat.le_refl _))
  have HO6 := hide (own_on HO5.out hb6)
  have HQ1 := hide (same_eq (c := c5) (d := c) (own_rd HO6.out) (HL.out.rd.on HB6.out) (by have := HH0.out.2; omega))
  have n1 : ((1 : Int) != 1) = false := rfl
  have z0 : ((l.length : Int) == 0) = false := by rw [beq_eq_false_iff_ne]; omega
  clear hr6 hf6 hb6 hbl hbF q1 hox hbl1 HRW q1b eD hoff hd1 hdb
  go_wp2_with fail
  refine HQ1.out.mono ?_; rintro e w7 ⟨rfl, hb7⟩
  have q7 : w7.cell? ⟨b, 1, none⟩ = some (.slice (some ⟨gd, 0, none⟩) l.length cD) := (hb7.cell (p := ⟨b, 1, none⟩) HQB.out.1).trans HQB.out.2
  have HB7 := hide hb7
  have HQ2 := hide (same_eq (c := cD) (d := c) (own_rd (own_on HOD.out hb7)) (HL.out.rd.on (below2 HB6.out hb7 (Nat.le_refl _))) (by have := HH0.out.2; omega))
  clear hb7 HQ1
  go_wp2_with fail
  refine HQ2.out.mono ?_; rintro e w8 ⟨rfl, hb8⟩
  have hb68 := below2 HB7.out hb8 (Nat.le_refl _)
  have q8 : w8.cell? ⟨b, 1, none⟩ = some (.slice (some ⟨gd, 0, none⟩) l.length cD) := (hb68.cell (p := ⟨b, 1, none⟩) HQB.out.1).trans HQB.out.2
  have ho8 := own_on HO6.out hb68
  have hd8 := own_on HOD.out hb68
  have x8 := own_cell ho8 (u8s_get HX0.out)
  have y8 := own_cell hd8 (u8s_get HX0.out)
  have f8 := ho8.frozenAt 0
  have fd8 := hd8.frozenAt 0
  have H8 := hide (H6.out.on hb68)
  have HB8 := hide (below2 HB6.out hb68 (Nat.le_refl _))
  have hne1 : g5 ≠ gd := HGD.out.2.2.2.1
  have hne2 : gd ≠ g5 := fun e => hne1 e.symm
  have hne3 : gd ≠ b := HGD.out.2.2.1
  have hne4 : g5 ≠ b := HGD.out.2.2.2.2
  clear hb8 hb68 ho8 hd8 HQ2 q7
  obtain ⟨w9, hw9⟩ : ∃ w9, w9 = ((w8.setCell ⟨g5, 0, none⟩ (.int .u8 (bits .xor .u8 (x0 : Int) 1))).setCell ⟨gd, 0, none⟩ (.int .u8 (bits .xor .u8 (x0 : Int) 1))).drew := ⟨_, rfl⟩
  have HB9 : Hid (Below w.heap.size w w9) := by rw [hw9]; exact ((HB8.out.setCell (p := ⟨g5, 0, none⟩) HG5.out.2.2 _).setCell (p := ⟨gd, 0, none⟩) HGD.out.2.1 _).drew
  have H9 : Hid (Ta w9 w.heap.size gt [(lb, l, 1)] F3) := by
    rw [hw9]
    refine H8.out.kept (fun k hk => ?_) (by simp [World.setCell, World.drew])
    exact (Below.heap_setCell (w8.setCell ⟨g5, 0, none⟩ (.int .u8 (bits .xor .u8 (x0 : Int) 1))) ⟨gd, 0, none⟩ _ k (fun e => HGD.out.1 (by have e' : k = gd := e; rw [← e']; exact hk))).trans (Below.heap_setCell w8 ⟨g5, 0, none⟩ _ k (fun e => HG5.out.1 (by have e' : k = g5 := e; rw [← e']; exact hk)))
  have HW9 := hide hw9
  have HBS := hide (ta_best H9.out (by simp [tot]) lb)
  rw [show bestT [(lb, l, 1)] lb = (l, 1) by simp [bestT, bestF]] at HBS
  unfold BestR at HBS
  dsimp only at HBS
  clear hw9
  go_upto_region 14 with (fail)
  go_region
  all_goals
    rw [← HW9.out]
    go_wp2_with fail
    refine HBS.out.mono ?_; rintro e w10 ⟨A10, c10, rfl, ho10, hb10⟩
    have HB10 := hide (below2 HB9.out hb10 (Nat.le_refl _))
    have H10 := hide (H9.out.on hb10)
    have HQ3 := hide (same_eq (c := c10) (d := c) (own_rd ho10) (HL.out.rd.on HB10.out) (by have := HH0.out.2; omega))
    clear ho10 hb10
    go_wp2_with fail
    refine HQ3.out.mono ?_; rintro e w11 ⟨rfl, hb11⟩
    have HB11 := hide (below2 HB10.out hb11 (Nat.le_refl _))
    have HCT := hide (ta_count (H10.out.on hb11) (by simp [tot]) lb HFL.out A c l (HL.out.rd.on HB11.out) HL.out.byt (by have := HH0.out.2; omega))
    rw [show cntT [(lb, l, 1)] lb l = 1 by simp [cntT, idxT, List.findIdx?_cons]] at HCT
    clear hb11 HQ3
    go_wp2_with fail
    refine HCT.out.mono ?_; rintro e w12 ⟨rfl, hb12⟩
    have HB12 := hide (below2 HB11.out hb12 (Nat.le_refl _))
    clear hb12 HCT
    go_wp2_with fail
    refine (live18 _).mono ?_; rintro e w' ⟨rfl, hb⟩
    have HBF := hide (below2 HB12.out hb (Nat.le_refl _))
    clear hb
    go_wp2
    go_ret
    exact ⟨rfl, HBF.out⟩
theorem walk_TallyApart (w : World) (lb : Int) (hfl : Fit lb) (A : Option Addr) (c : Nat) (l : List Nat) (hl : In8 w A c l) :
    Calls Try.prog 11 #[.int .i64 lb, .slice A l.length c] w fun e w' => e = .returned (.bool true) ∧ Below w.heap.size w w' := by
  by_cases h : l.length = 0 ∨ 200 < l.length
  · exact apart18_bad w lb A _ c h
  · exact apart18_in w lb hfl A c l hl (by omega) (by omega)
end Go.Proofs.Ytnbhgeodbpelgaa
