/- Layer 21's hearer: enter. No conditions. -/
import Derived.Test.YtnbhgeodbpelgaaHeA
namespace Go.Proofs.Ytnbhgeodbpelgaa
open Go.RowKit
set_option linter.unusedVariables false
attribute [local go_sem ↓] Go.wp_at_zero Go.wp_at_succ

def bestH (s : Hst) : List Nat × Nat := bestT s.t ((s.ent % 2 : Nat) : Int)
/-- what enter makes. -/
def enterS (room : Nat) (s : Hst) : Hst :=
  if room - s.q.length = 0 then s
  else if (bestH s).2 = 0 then s
  else if s.led.enough ((bestH s).2 : Nat) = false then s
  else if pushE room s.q (bestH s).1 ≠ 0 then s
  else { s with q := pushL room s.q (bestH s).1, ent := s.ent + 1, t := [], led := s.led.set }
section
variable {w w' : World} {B gx gq gl gt room : Nat} {s : Hst} {F : Nat → Prop} {Fs : Nat → Nat → Prop}
theorem que_freeH {w : World} {B g room : Nat} {ms : List (List Nat)} {F : Nat → Prop} (h : Qu w B g room ms F) : Calls Try.prog 100 #[.pointer (some ⟨g, 0, none⟩)] w fun e w' => e = .returned (.int .i64 (room - ms.length : Nat)) ∧ Below w.heap.size w w' :=
  (que_free h).mono fun e w' ⟨he, n, hn⟩ => ⟨he, by rw [hn]; exact below_drewN (Below.refl _ _) n⟩
def EnterR (w : World) (B gx gq gl gt room : Nat) (s' : Hst) (F : Nat → Prop) (e : Ending) (w' : World) : Prop :=
  e = .returned (.tuple #[]) ∧ ∃ F' Fs', HeAt w' B gx gq gl gt room s' F' Fs' ∧ Turn F F' w w'
set_option maxRecDepth 100000 in
set_option maxHeartbeats 4000000 in
theorem he_enter (h : HeAt w B gx gq gl gt room s F Fs) (hd : s.ent ≤ 1000000) (hT : tot s.t ≤ 1000000) : Calls Try.prog 82 #[.pointer (some ⟨gx, 0, none⟩)] w (EnterR w B gx gq gl gt room (enterS room s) F) := by
  have c0 := h.cells.1
  have HFR := hide (que_freeH h.q)
  have HA := hide h
  clear h
  unfold EnterR
  by_cases hf : room - s.q.length = 0
  · have e1 : enterS room s = s := by unfold enterS; rw [if_pos hf]
    rw [e1]
    rw [hf] at HFR
    clear hf e1
    go_enter Try.func82, Try.ntmps82
    go_wp2_with fail
    refine HFR.out.mono ?_; rintro e w1 ⟨rfl, hb1⟩
    have H1 := hide (HA.out.on hb1)
    have T1 := hide (Turn.of_below (F := F) hb1)
    clear hb1
    go_wp2
    go_returns
    exact ⟨rfl, _, _, H1.out, T1.out⟩
  · have hf0 : (((room - s.q.length : Nat) : Int) == 0) = false := by rw [beq_eq_false_iff_ne]; omega
    obtain ⟨fr, hfr⟩ : ∃ fr, fr = room - s.q.length := ⟨_, rfl⟩
    rw [← hfr] at HFR hf0
    have HF := hide hf
    clear hf hfr
    obtain ⟨bst, hbst⟩ : ∃ b, b = bestH s := ⟨_, rfl⟩
    have HBST := hide hbst
    have HBE := hide (fun (W : World) (hb : Below w.heap.size w W) => ta_best (HA.out.on hb).t hT ((s.ent % 2 : Nat) : Int))
    rw [show bestT s.t ((s.ent % 2 : Nat) : Int) = bst from hbst.symm] at HBE
    unfold BestR at HBE
    have HLB := hide (fun (W : World) (hb : Below w.heap.size w W) => he_label (HA.out.on hb) hd)
    obtain ⟨lv, hlv⟩ : ∃ lv : Int, lv = ((s.ent % 2 : Nat) : Int) := ⟨_, rfl⟩
    rw [← hlv] at HBE HLB
    clear hlv hbst
    by_cases hz : bst.2 = 0
    · have e1 : enterS room s = s := by unfold enterS; rw [if_neg HF.out, if_pos (by rw [← HBST.out]; exact hz)]
      rw [e1]
      rw [hz] at HBE
      clear hz e1
      go_enter Try.func82, Try.ntmps82
      go_wp2_with fail
      refine HFR.out.mono ?_; rintro e w1 ⟨rfl, hb1⟩
      have HB1 := hide hb1
      have HL1 := hide (HLB.out _ hb1.drew)
      have HE1 := hide (HBE.out _ hb1.drew)
      have d2 := (HA.out.on hb1).cells.2.2.1
      clear hb1
      go_wp2
      go_region_held3 (fun W => W.cell? ⟨gx, 2, none⟩ = some (.pointer (some ⟨gt, 0, none⟩))) (first
          | exact ((HA.out.on (below2 HB1.out.drew hb5 (Nat.le_refl _))).cells.2.2.1)
          | go_keep)
        ((first
          | (go_at_call 81; (with_reducible refine HL1.out.mono ?_); rintro e w4 ⟨rfl, rfl⟩)
          | (go_at_call 49; (with_reducible refine HE1.out.mono ?_); rintro e w5 ⟨A5, c5, rfl, ho5, hb5⟩)))
      have HB5 := hide (below2 HB1.out.drew hb5 (Nat.le_refl _))
      clear ho5 hb5
      go_wp2
      go_returns
      exact ⟨rfl, _, _, HA.out.on HB5.out, Turn.of_below HB5.out⟩
    · have hz0 : ((bst.2 : Int) == 0) = false := by rw [beq_eq_false_iff_ne]; omega
      have HZ := hide hz
      clear hz
      have HEN := hide (fun (W : World) (hb : Below w.heap.size w W) => led_enough W gl s.led ((bst.2 : Nat) : Int) (HA.out.on hb).l)
      cases hen : s.led.enough ((bst.2 : Nat) : Int) with
      | false =>
        have e1 : enterS room s = s := by unfold enterS; rw [if_neg HF.out, ← HBST.out, if_neg HZ.out, if_pos hen]
        rw [e1]
        rw [hen] at HEN
        clear hen e1
        go_enter Try.func82, Try.ntmps82
        go_wp2_with fail
        refine HFR.out.mono ?_; rintro e w1 ⟨rfl, hb1⟩
        have HB1 := hide hb1
        have HL1 := hide (HLB.out _ hb1.drew)
        have HE1 := hide (HBE.out _ hb1.drew)
        have d2 := (HA.out.on hb1).cells.2.2.1
        clear hb1
        go_wp2
        go_region_held3 (fun W => W.cell? ⟨gx, 2, none⟩ = some (.pointer (some ⟨gt, 0, none⟩))) (first
            | exact ((HA.out.on (below2 HB1.out.drew hb5 (Nat.le_refl _))).cells.2.2.1)
            | go_keep)
          ((first
            | (go_at_call 81; (with_reducible refine HL1.out.mono ?_); rintro e w4 ⟨rfl, rfl⟩)
            | (go_at_call 49; (with_reducible refine HE1.out.mono ?_); rintro e w5 ⟨A5, c5, rfl, ho5, hb5⟩)))
        have hb05 := below2 HB1.out.drew hb5 (Nat.le_refl _)
        have HB5 := hide hb05
        have HN5 := hide (HEN.out _ hb05)
        have d1 := (HA.out.on hb05).cells.2.1
        clear ho5 hb5 hb05
        go_wp2_with fail
        refine HN5.out.mono ?_; rintro e w6 ⟨rfl, rfl⟩
        go_wp2
        go_returns
        exact ⟨rfl, _, _, HA.out.on HB5.out, Turn.of_below HB5.out⟩
      | true =>
        rw [hen] at HEN
        have HENT := hide hen
        clear hen
        by_cases hp : pushE room s.q bst.1 = 0
        · have e1 : enterS room s = { s with q := pushL room s.q bst.1, ent := s.ent + 1, t := [], led := s.led.set } := by
            unfold enterS
            rw [if_neg HF.out, ← HBST.out, if_neg HZ.out, if_neg (by rw [HENT.out]; simp), if_neg (by simpa using hp)]
          rw [e1]
          have HP := hide hp
          clear hp e1
          go_enter Try.func82, Try.ntmps82
          go_wp2_with fail
          refine HFR.out.mono ?_; rintro e w1 ⟨rfl, hb1⟩
          have HB1 := hide hb1
          have HL1 := hide (HLB.out _ hb1.drew)
          have HE1 := hide (HBE.out _ hb1.drew)
          have d2 := (HA.out.on hb1).cells.2.2.1
          clear hb1
          go_wp2
          go_region_held3 (fun W => W.cell? ⟨gx, 2, none⟩ = some (.pointer (some ⟨gt, 0, none⟩))) (first
              | exact ((HA.out.on (below2 HB1.out.drew hb5 (Nat.le_refl _))).cells.2.2.1)
              | go_keep)
            ((first
              | (go_at_call 81; (with_reducible refine HL1.out.mono ?_); rintro e w4 ⟨rfl, rfl⟩)
              | (go_at_call 49; (with_reducible refine HE1.out.mono ?_); rintro e w5 ⟨A5, c5, rfl, ho5, hb5⟩)))
          have hb05 := below2 HB1.out.drew hb5 (Nat.le_refl _)
          have HB5 := hide hb05
          have HN5 := hide (HEN.out _ hb05)
          have h5 := HA.out.on hb05
          have d0 := h5.cells.1
          have d1 := h5.cells.2.1
          have HQ5 := hide (que_push h5.q A5 c5 bst.1 (own_rd ho5))
          rw [HP.out] at HQ5
          have H5 := hide h5
          clear ho5 hb5 hb05 h5
          go_wp2_with fail
          refine HN5.out.mono ?_; rintro e w6 ⟨rfl, rfl⟩
          go_wp2_with fail
          refine HQ5.out.mono ?_; rintro e w7 ⟨F7, rfl, hq7, ht7⟩
          obtain ⟨F8, Fs8, h8, t8⟩ := H5.out.que hq7 ht7
          have x3 : w7.cell? ⟨gx, 3, none⟩ = some (.int .i64 (s.ent : Nat)) := h8.cells.2.2.2.1
          have f3 := h8.ob.blk.free 3
          obtain ⟨h9, t9⟩ := h8.setEnt (s.ent + 1)
          obtain ⟨w9, hw9⟩ : ∃ w9, w9 = w7.setCell ⟨gx, 3, none⟩ (.int .i64 ((s.ent + 1 : Nat) : Int)) := ⟨_, rfl⟩
          rw [← hw9] at h9 t9
          have hw9b : w7.setCell ⟨gx, 3, none⟩ (.int .i64 ((s.ent : Int) + 1)) = w9 := by rw [hw9]; rfl
          have y2 := h9.cells.2.2.1
          have HCL := hide (ta_clear h9.t)
          have H9 := hide h9
          have T9 := hide (((Turn.of_below (F := F) HB5.out).trans t8).trans t9)
          have HW9 := hide hw9b
          clear hq7 ht7 h8 t8 h9 t9 hw9 hw9b HQ5 HN5 d0 d1
          go_upto_region 4 with (fail)
          rw [HW9.out]
          clear x3 f3
          go_wp2_with fail
          refine HCL.out.mono ?_; rintro e w10 ⟨rfl, hc10, ht10⟩
          obtain ⟨F11, Fs11, h11, t11⟩ := H9.out.tal hc10 ht10
          have z1 := h11.cells.2.1
          have HMK := hide (led_mark w10 gl s.led h11.l)
          have H11 := hide h11
          have T11 := hide (T9.out.trans t11)
          clear hc10 ht10 h11 t11 HCL y2
          go_wp2_with fail
          refine HMK.out.mono ?_; rintro e w12 ⟨rfl, hl12, hg12⟩
          obtain ⟨F13, Fs13, h13, t13⟩ := H11.out.led hl12 hg12 (Led.ok_set HA.out.ok)
          have H13 := hide h13
          have T13 := hide (T11.out.trans t13)
          clear hl12 hg12 h13 t13 HMK
          go_wp2
          go_returns
          exact ⟨rfl, _, _, H13.out, T13.out⟩
        · have e1 : enterS room s = s := by
            unfold enterS
            rw [if_neg HF.out, ← HBST.out, if_neg HZ.out, if_neg (by rw [HENT.out]; simp), if_pos hp]
          rw [e1]
          have hpb : (((pushE room s.q bst.1 : Nat) : Int) != 0) = true := by simp; omega
          have HPN := hide (pushL_notC hp)
          clear hp e1
          go_enter Try.func82, Try.ntmps82
          go_wp2_with fail
          refine HFR.out.mono ?_; rintro e w1 ⟨rfl, hb1⟩
          have HB1 := hide hb1
          have HL1 := hide (HLB.out _ hb1.drew)
          have HE1 := hide (HBE.out _ hb1.drew)
          have d2 := (HA.out.on hb1).cells.2.2.1
          clear hb1
          go_wp2
          go_region_held3 (fun W => W.cell? ⟨gx, 2, none⟩ = some (.pointer (some ⟨gt, 0, none⟩))) (first
              | exact ((HA.out.on (below2 HB1.out.drew hb5 (Nat.le_refl _))).cells.2.2.1)
              | go_keep)
            ((first
              | (go_at_call 81; (with_reducible refine HL1.out.mono ?_); rintro e w4 ⟨rfl, rfl⟩)
              | (go_at_call 49; (with_reducible refine HE1.out.mono ?_); rintro e w5 ⟨A5, c5, rfl, ho5, hb5⟩)))
          have hb05 := below2 HB1.out.drew hb5 (Nat.le_refl _)
          have HB5 := hide hb05
          have HN5 := hide (HEN.out _ hb05)
          have h5 := HA.out.on hb05
          have d0 := h5.cells.1
          have d1 := h5.cells.2.1
          have HQ5 := hide (que_push h5.q A5 c5 bst.1 (own_rd ho5))
          rw [HPN.out] at HQ5
          have H5 := hide h5
          clear ho5 hb5 hb05 h5
          go_wp2_with fail
          refine HN5.out.mono ?_; rintro e w6 ⟨rfl, rfl⟩
          go_wp2_with fail
          refine HQ5.out.mono ?_; rintro e w7 ⟨F7, rfl, hq7, ht7⟩
          obtain ⟨F8, Fs8, h8, t8⟩ := H5.out.que hq7 ht7
          have H8 := hide h8
          have T8 := hide ((Turn.of_below (F := F) HB5.out).trans t8)
          clear hq7 ht7 h8 t8 HQ5
          go_wp2
          go_returns
          exact ⟨rfl, _, _, H8.out, T8.out⟩
end
end Go.Proofs.Ytnbhgeodbpelgaa
