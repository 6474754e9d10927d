/- Layer 18: the law TallyAdds, walked. No conditions. -/
import Derived.Test.YtnbhgeodbpelgaaTalL
import Derived.Deep.Cut
namespace Go.Proofs.Ytnbhgeodbpelgaa
open Go.RowKit
set_option linter.unusedVariables false
attribute [local go_sem ↓] Go.wp_at_zero Go.wp_at_succ

/-- both tallies, off one another. -/
structure BothT (w0 w : World) (gt gr : Nat) (s : List Trow) (F G : Nat → Prop) : Prop where
  m : Ta w w0.heap.size gt s F
  r : RTa w w0.heap.size gr s G
  off : Off F G
  bel : Below w0.heap.size w0 w
section
variable {w0 w w1 w2 : World} {gt gr : Nat} {s s' : List Trow} {F F' G G' : Nat → Prop}
theorem BothT.on (h : BothT w0 w gt gr s F G) (hb : Below w.heap.size w w2) : BothT w0 w2 gt gr s F G := ⟨h.m.on hb, h.r.on hb, h.off, below2 h.bel hb (Nat.le_refl _)⟩
theorem BothT.mid (h : BothT w0 w gt gr s F G) (ht : Turn F F' w w1) : RTa w1 w0.heap.size gr s G := h.r.kept (ht.kept h.off h.r.foot) ht.size
theorem BothT.bel1 (h : BothT w0 w gt gr s F G) (ht : Turn F F' w w1) : Below w0.heap.size w0 w1 := ht.below h.bel h.m.foot h.bel.size
theorem BothT.step (h : BothT w0 w gt gr s F G) (ht : Turn F F' w w1) (hm : Ta w1 w0.heap.size gt s' F') (ht2 : Turn G G' w1 w2) (hr : RTa w2 w0.heap.size gr s' G') : BothT w0 w2 gt gr s' F' G' := by
  have o1 : Off F' G := ht.off h.off h.r.foot
  have r1 := h.mid ht
  have o2 : Off G' F' := ht2.off o1.symm hm.foot
  exact ⟨hm.kept (ht2.kept o1.symm hm.foot) ht2.size, hr, o2.symm, ht2.below (h.bel1 ht) r1.foot (Nat.le_trans h.bel.size ht.size)⟩
/-- all is let go; the reference's is a new one. -/
theorem BothT.fresh (h : BothT w0 w gt gr s F G) (ht : Turn F F w w1) (hm : Ta w1 w0.heap.size gt [] F) :
    BothT w0 (w1.alloc (.cells #[.slice none 0 0] 85)) gt w1.heap.size [] F (fun k => k = w1.heap.size) := by
  have hb := h.bel1 ht
  exact ⟨hm.on ((Below.refl _ _).alloc (Nat.le_refl _) _), rta_new w1 hb.size, (by rintro k h1 rfl; have := (hm.foot _ h1).2; omega), hb.alloc hb.size _⟩
end
def KeepA (w0 wr : World) (gt gr k : Nat) : Prop := ∃ s F G, BothT w0 wr gt gr s F G ∧ tot s ≤ k
set_option maxRecDepth 100000 in
set_option maxHeartbeats 8000000 in
theorem walk_TallyAdds (w : World) (a : Option Addr) (c : Nat) (l : List Told) (hl : InT w a c l) (lb0 : Int) (hlb0 : Fit lb0) (A0 : Option Addr) (c0 : Nat) (m0 : List Nat) (hm0 : In8 w A0 c0 m0) :
    Calls Try.prog 9 #[.slice a l.length c, .int .i64 lb0, .slice A0 m0.length c0] w fun e w' => e = .returned (.bool true) ∧ Below w.heap.size w w' := by
  have HH := hide (huge18 hl)
  have HL := hide hl
  have HLB0 := hide hlb0
  have HM0 := hide hm0
  have hll : l.length ≤ 9223372036854775807 := Nat.le_trans hl.cap hl.max
  clear hl hlb0 hm0
  go_enter Try.func9, Try.ntmps9
  go_wp2_with fail
  refine HH.out.mono ?_; rintro e w' ⟨b, rfl, rfl, hsm⟩
  have HSM := hide hsm
  clear hsm HH
  cases b
  case true =>
    go_wp2_with fail
    refine (live18 _).mono ?_; rintro e w' ⟨rfl, hb⟩
    go_wp2
    go_ret
    exact ⟨rfl, hb⟩
  case false =>
    have hl100 : l.length ≤ 100 := (HSM.out rfl).1
    have HS4 := hide (HSM.out rfl).2
    clear HSM
    go_wp2_with fail
    refine (ta_new w).mono ?_; rintro e w1 ⟨gt, F1, rfl, h1, hb1⟩
    have HK1 : Hid (KeepA w (w1.alloc (.cells #[.slice none 0 0] 85)) gt w1.heap.size 0) :=
      ⟨[], F1, _, ⟨h1.on ((Below.refl _ _).alloc (Nat.le_refl _) _), rta_new w1 hb1.size, (by rintro k h2 rfl; have := (h1.foot _ h2).2; omega), hb1.alloc hb1.size _⟩, Nat.le_refl _⟩
    clear h1 hb1
    go_wp2
    go_loopw [8, 9] (fun v i wr => ∃ k : Nat, k ≤ l.length ∧ i = .int .i64 k ∧ ∃ gr : Nat, v = .pointer (some ⟨gr, 0, none⟩) ∧ Hid (KeepA w wr gt gr k)) (fun _ i _ => l.length - (intOf i).toNat)
    case atStart => exact ⟨0, Nat.zero_le _, rfl, _, rfl, HK1.out⟩
    case round =>
      obtain ⟨k, hk, rfl, gr, rfl, hrel⟩ := hrel
      clear HK1
      by_cases hlt : k < l.length
      · obtain ⟨⟨lb, m, cl⟩, hpm⟩ : ∃ x, l[k]? = some x := ⟨_, List.getElem?_eq_getElem hlt⟩
        have hml := HS4.out k _ hpm
        obtain ⟨b, o, A, cA, rfl, hbl, h0, h1, h2, hrd, hby, _, hfl⟩ := HL.out.rd k _ hpm
        dsimp only at h0 h1 h2 hrd hby hfl hml
        have HC := hide (fun (W : World) (hb : Below w.heap.size w W) => (show W.cell? ⟨b, o + k * 3, none⟩ = some (.int .i64 lb) ∧ W.cell? ⟨b, o + k * 3 + 1, none⟩ = some (.slice A m.length cA) from ⟨(hb.cell (p := ⟨b, o + k * 3, none⟩) hbl).trans h0, (hb.cell (p := ⟨b, o + k * 3 + 1, none⟩) hbl).trans h1⟩))
        have q2 : wr.cell? ⟨b, o + k * 3 + 2, none⟩ = some (.bool cl) := by
          obtain ⟨s, F, G, hbo, _⟩ := hrel.out
          exact (hbo.bel.cell (p := ⟨b, o + k * 3 + 2, none⟩) hbl).trans h2
        have HRD := hide hrd
        have HBY := hide hby
        have HFL := hide hfl
        have HML := hide hml
        have g0 : (0 : Int) ≤ (k : Int) := by omega
        have g3 : (k : Int) < (l.length : Int) := by omega
        clear hpm h0 h1 h2 hrd hby hfl hml hbl
        cases cl
        case true =>
          obtain ⟨s, F, G, hbo, htt⟩ := hrel.out
          have HCL := hide (ta_clear hbo.m)
          have HB0 := hide hbo
          clear hrel hbo htt
          go_wp2_with fail
          refine HCL.out.mono ?_; rintro e w2 ⟨rfl, h2, ht2⟩
          obtain ⟨wc, hwc⟩ : ∃ wc, wc = w2.alloc (.cells #[.slice none 0 0] 85) := ⟨_, rfl⟩
          have hkp : Hid (KeepA w wc gt w2.heap.size k) := by rw [hwc]; exact ⟨[], _, _, HB0.out.fresh ht2 h2, Nat.zero_le _⟩
          have HWC := hide hwc
          clear h2 ht2 HCL HB0 q2 hwc
          go_upto_region 10 with (fail)
          rw [← HWC.out]
          clear HWC
          obtain ⟨s, F, G, hbo, htt⟩ := hkp.out
          have HB := hide hbo
          have HBD := hide (hbo.on (Below.refl _ _).drew)
          have HT := hide htt
          have HAD := hide (ta_add HBD.out.m (by omega) lb HFL.out A cA m ((HRD.out.below HBD.out.bel (Nat.le_refl _)).more HBD.out.bel.size) HBY.out (by have := HML.out; omega))
          have HAR := hide (fun (w3 : World) (F3 : Nat → Prop) (hu3 : Turn F F3 wc.drew w3) => rta_add (HBD.out.mid hu3) (by omega) lb HFL.out A cA m ((HRD.out.below (HBD.out.bel1 hu3) (Nat.le_refl _)).more (HBD.out.bel1 hu3).size) HBY.out (by have := HML.out; omega))
          unfold AddR at HAD
          unfold RAddR at HAR
          obtain ⟨s2, hs2⟩ : ∃ s2, s2 = addT s lb m := ⟨_, rfl⟩
          obtain ⟨cv, hcv⟩ : ∃ cv, cv = cntT s2 lb m := ⟨_, rfl⟩
          have HT2 : Hid (tot s2 ≤ k + 1) := by rw [hs2]; show tot (addT s lb m) ≤ _; rw [tot_add]; omega
          simp only [← hs2, ← hcv] at HAD HAR
          have n1 : ((cv : Int) != (cv : Int)) = false := by simp
          have cc := HC.out _ HB.out.bel.drew
          have hl101 : k + 1 ≤ 101 := by omega
          clear hkp hbo htt hs2 hcv
          go_wp2
          go_region_held3 (fun W => W.cell? ⟨b, o + k * 3, none⟩ = some (.int .i64 lb) ∧ W.cell? ⟨b, o + k * 3 + 1, none⟩ = some (.slice A m.length cA)) (first
              | exact HC.out _ (HBD.out.step hu3 hm3 hu4 hr4).bel
              | exact HC.out _ (HBD.out.bel1 hu3)
              | exact cc
              | go_keep)
            ((first
              | (go_at_call 47; (with_reducible refine HAD.out.mono ?_); rintro e w3 ⟨F3, rfl, hm3, hu3⟩)
              | (go_at_call 48; (with_reducible refine (HAR.out _ _ hu3).mono ?_); rintro e w4 ⟨G4, rfl, hr4, hu4⟩)))
          have HZ := hide (HBD.out.step hu3 hm3 hu4 hr4)
          have HB1 := hide (ta_best HZ.out.m (by have := HT2.out; omega) lb)
          obtain ⟨bst, hbst⟩ : ∃ b, b = bestT s2 lb := ⟨_, rfl⟩
          have HBL : Hid (bst.1.length ≤ 1000000) := by rw [hbst]; exact hide (best_len (n := 1000000) (fun r hr => (HZ.out.m.ok r hr).2.2.1) lb)
          have HBST := hide hbst
          rw [← hbst] at HB1
          unfold BestR at HB1
          have c4 := (HC.out _ HZ.out.bel).1
          clear hu3 hm3 hu4 hr4 hbst HAD HAR cc n1 HB HBD
          go_wp2_with fail
          refine HB1.out.mono ?_; rintro e w5 ⟨A5, c5, rfl, ho5, hb5⟩
          have HZ5 := hide (HZ.out.on hb5)
          have HO5 := hide ho5
          have HB2 := hide (rta_best HZ5.out.r (by have := HT2.out; omega) lb)
          rw [← HBST.out] at HB2
          unfold BestR at HB2
          have c5' := (HC.out _ HZ5.out.bel).1
          clear ho5 hb5 HB1 c4
          go_wp2_with fail
          refine HB2.out.mono ?_; rintro e w6 ⟨A6, c6, rfl, ho6, hb6⟩
          have HZ6 := hide (HZ5.out.on hb6)
          have HO56 := hide (own_on HO5.out hb6)
          have HO6 := hide ho6
          have HAL := hide (alike18 HZ6.out.m HZ6.out.r (by have := HT2.out; omega))
          clear ho6 hb6 HB2 c5'
          go_wp2_with fail
          refine HAL.out.mono ?_; rintro e w7 ⟨rfl, hb7⟩
          have HZ7 := hide (HZ6.out.on hb7)
          have HSQ := hide (same_eq (c := c5) (d := c6) (own_rd (own_on HO56.out hb7)) (own_rd (own_on HO6.out hb7)) (by have := HBL.out; omega))
          have n2 : ((bst.2 : Int) != (bst.2 : Int)) = false := by simp
          clear hb7 HAL
          go_wp2_with fail
          refine HSQ.out.mono ?_; rintro e w8 ⟨rfl, hb8⟩
          have HZ8 := hide (HZ7.out.on hb8)
          have HCA := hide (ta_count HZ8.out.m (by have := HT2.out; omega) lb0 HLB0.out A0 c0 m0 ((HM0.out.rd.below HZ8.out.bel (Nat.le_refl _)).more HZ8.out.bel.size) HM0.out.byt HM0.out.len)
          obtain ⟨cw, hcw⟩ : ∃ cw, cw = cntT s2 lb0 m0 := ⟨_, rfl⟩
          rw [← hcw] at HCA
          have n3 : ((cw : Int) != (cw : Int)) = false := by simp
          have HCW := hide hcw
          clear hb8 HSQ hcw
          go_wp2_with fail
          refine HCA.out.mono ?_; rintro e w9 ⟨rfl, hb9⟩
          have HZ9 := hide (HZ8.out.on hb9)
          have HCB := hide (rta_count HZ9.out.r (by have := HT2.out; omega) lb0 A0 c0 m0 ((HM0.out.rd.below HZ9.out.bel (Nat.le_refl _)).more HZ9.out.bel.size))
          rw [← HCW.out] at HCB
          clear hb9 HCA
          go_wp2_with fail
          refine HCB.out.mono ?_; rintro e w10 ⟨rfl, hb10⟩
          have HZ10 := hide (HZ9.out.on hb10)
          clear hb10 HCB
          go_wp2
          go_roundw
          case rel => exact ⟨k + 1, by omega, by go_num, _, rfl, _, _, _, HZ10.out, HT2.out⟩
          case measure => simp [intOf]; omega
        case false =>
          have hkp := hrel
          clear hrel
          go_upto_region 10 with (fail)
          obtain ⟨s, F, G, hbo, htt⟩ := hkp.out
          have HB := hide hbo
          have HBD := hide (hbo.on (Below.refl _ _).drew)
          have HT := hide htt
          have HAD := hide (ta_add HBD.out.m (by omega) lb HFL.out A cA m ((HRD.out.below HBD.out.bel (Nat.le_refl _)).more HBD.out.bel.size) HBY.out (by have := HML.out; omega))
          have HAR := hide (fun (w3 : World) (F3 : Nat → Prop) (hu3 : Turn F F3 wr.drew w3) => rta_add (HBD.out.mid hu3) (by omega) lb HFL.out A cA m ((HRD.out.below (HBD.out.bel1 hu3) (Nat.le_refl _)).more (HBD.out.bel1 hu3).size) HBY.out (by have := HML.out; omega))
          unfold AddR at HAD
          unfold RAddR at HAR
          obtain ⟨s2, hs2⟩ : ∃ s2, s2 = addT s lb m := ⟨_, rfl⟩
          obtain ⟨cv, hcv⟩ : ∃ cv, cv = cntT s2 lb m := ⟨_, rfl⟩
          have HT2 : Hid (tot s2 ≤ k + 1) := by rw [hs2]; show tot (addT s lb m) ≤ _; rw [tot_add]; omega
          simp only [← hs2, ← hcv] at HAD HAR
          have n1 : ((cv : Int) != (cv : Int)) = false := by simp
          have cc := HC.out _ HB.out.bel.drew
          have hl101 : k + 1 ≤ 101 := by omega
          clear hkp hbo htt hs2 hcv
          go_wp2
          go_region_held3 (fun W => W.cell? ⟨b, o + k * 3, none⟩ = some (.int .i64 lb) ∧ W.cell? ⟨b, o + k * 3 + 1, none⟩ = some (.slice A m.length cA)) (first
              | exact HC.out _ (HBD.out.step hu3 hm3 hu4 hr4).bel
              | exact HC.out _ (HBD.out.bel1 hu3)
              | exact cc
              | go_keep)
            ((first
              | (go_at_call 47; (with_reducible refine HAD.out.mono ?_); rintro e w3 ⟨F3, rfl, hm3, hu3⟩)
              | (go_at_call 48; (with_reducible refine (HAR.out _ _ hu3).mono ?_); rintro e w4 ⟨G4, rfl, hr4, hu4⟩)))
          have HZ := hide (HBD.out.step hu3 hm3 hu4 hr4)
          have HB1 := hide (ta_best HZ.out.m (by have := HT2.out; omega) lb)
          obtain ⟨bst, hbst⟩ : ∃ b, b = bestT s2 lb := ⟨_, rfl⟩
          have HBL : Hid (bst.1.length ≤ 1000000) := by rw [hbst]; exact hide (best_len (n := 1000000) (fun r hr => (HZ.out.m.ok r hr).2.2.1) lb)
          have HBST := hide hbst
          rw [← hbst] at HB1
          unfold BestR at HB1
          have c4 := (HC.out _ HZ.out.bel).1
          clear hu3 hm3 hu4 hr4 hbst HAD HAR cc n1 HB HBD
          go_wp2_with fail
          refine HB1.out.mono ?_; rintro e w5 ⟨A5, c5, rfl, ho5, hb5⟩
          have HZ5 := hide (HZ.out.on hb5)
          have HO5 := hide ho5
          have HB2 := hide (rta_best HZ5.out.r (by have := HT2.out; omega) lb)
          rw [← HBST.out] at HB2
          unfold BestR at HB2
          have c5' := (HC.out _ HZ5.out.bel).1
          clear ho5 hb5 HB1 c4
          go_wp2_with fail
          refine HB2.out.mono ?_; rintro e w6 ⟨A6, c6, rfl, ho6, hb6⟩
          have HZ6 := hide (HZ5.out.on hb6)
          have HO56 := hide (own_on HO5.out hb6)
          have HO6 := hide ho6
          have HAL := hide (alike18 HZ6.out.m HZ6.out.r (by have := HT2.out; omega))
          clear ho6 hb6 HB2 c5'
          go_wp2_with fail
          refine HAL.out.mono ?_; rintro e w7 ⟨rfl, hb7⟩
          have HZ7 := hide (HZ6.out.on hb7)
          have HSQ := hide (same_eq (c := c5) (d := c6) (own_rd (own_on HO56.out hb7)) (own_rd (own_on HO6.out hb7)) (by have := HBL.out; omega))
          have n2 : ((bst.2 : Int) != (bst.2 : Int)) = false := by simp
          clear hb7 HAL
          go_wp2_with fail
          refine HSQ.out.mono ?_; rintro e w8 ⟨rfl, hb8⟩
          have HZ8 := hide (HZ7.out.on hb8)
          have HCA := hide (ta_count HZ8.out.m (by have := HT2.out; omega) lb0 HLB0.out A0 c0 m0 ((HM0.out.rd.below HZ8.out.bel (Nat.le_refl _)).more HZ8.out.bel.size) HM0.out.byt HM0.out.len)
          obtain ⟨cw, hcw⟩ : ∃ cw, cw = cntT s2 lb0 m0 := ⟨_, rfl⟩
          rw [← hcw] at HCA
          have n3 : ((cw : Int) != (cw : Int)) = false := by simp
          have HCW := hide hcw
          clear hb8 HSQ hcw
          go_wp2_with fail
          refine HCA.out.mono ?_; rintro e w9 ⟨rfl, hb9⟩
          have HZ9 := hide (HZ8.out.on hb9)
          have HCB := hide (rta_count HZ9.out.r (by have := HT2.out; omega) lb0 A0 c0 m0 ((HM0.out.rd.below HZ9.out.bel (Nat.le_refl _)).more HZ9.out.bel.size))
          rw [← HCW.out] at HCB
          clear hb9 HCA
          go_wp2_with fail
          refine HCB.out.mono ?_; rintro e w10 ⟨rfl, hb10⟩
          have HZ10 := hide (HZ9.out.on hb10)
          clear hb10 HCB
          go_wp2
          go_roundw
          case rel => exact ⟨k + 1, by omega, by go_num, _, rfl, _, _, _, HZ10.out, HT2.out⟩
          case measure => simp [intOf]; omega
      · obtain ⟨s, F, G, hbo, htt⟩ := hrel.out
        have htn : tot s ≤ 100 := by omega
        have HTN := hide htn
        have HB := hide hbo
        have HB1 := hide (ta_best hbo.m (by omega) lb0)
        obtain ⟨bst, hbst⟩ : ∃ b, b = bestT s lb0 := ⟨_, rfl⟩
        have HBL : Hid (bst.1.length ≤ 1000000) := by rw [hbst]; exact hide (best_len (n := 1000000) (fun r hr => (HB.out.m.ok r hr).2.2.1) lb0)
        have HBST := hide hbst
        rw [← hbst] at HB1
        unfold BestR at HB1
        clear hrel hbo htt htn hbst
        go_wp2_with fail
        refine HB1.out.mono ?_; rintro e w5 ⟨A5, c5, rfl, ho5, hb5⟩
        have HZ5 := hide (HB.out.on hb5)
        have HO5 := hide ho5
        have HB2 := hide (rta_best HZ5.out.r (by have := HTN.out; omega) lb0)
        rw [← HBST.out] at HB2
        unfold BestR at HB2
        clear ho5 hb5 HB1
        go_wp2_with fail
        refine HB2.out.mono ?_; rintro e w6 ⟨A6, c6, rfl, ho6, hb6⟩
        have HZ6 := hide (HZ5.out.on hb6)
        have HSQ := hide (same_eq (c := c5) (d := c6) (own_rd (own_on HO5.out hb6)) (own_rd ho6) (by have := HBL.out; omega))
        have n2 : ((bst.2 : Int) == (bst.2 : Int)) = true := by simp
        clear ho6 hb6 HB2
        go_wp2_with fail
        refine HSQ.out.mono ?_; rintro e w8 ⟨rfl, hb8⟩
        have HZ8 := hide (HZ6.out.on hb8)
        clear hb8 HSQ
        go_wp2_with fail
        refine (live18 _).mono ?_; rintro e w' ⟨rfl, hb⟩
        have HBF := hide (below2 HZ8.out.bel hb (Nat.le_refl _))
        clear hb
        go_wp2
        go_ret
        exact ⟨rfl, HBF.out⟩
end Go.Proofs.Ytnbhgeodbpelgaa
