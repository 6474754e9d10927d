/- Layer 20's reference caller: Take. No conditions. -/
import Derived.Test.YtnbhgeodbpelgaaCalI
import Derived.Deep.RegionLaw
import Derived.Deep.CutRange
namespace Go.Proofs.Ytnbhgeodbpelgaa
open Go.RowKit
set_option linter.unusedVariables false
attribute [local go_sem ↓] Go.wp_at_zero Go.wp_at_succ

section
variable {w w' : World} {B gx gq gl room : Nat} {s : Cst} {F : Nat → Prop} {Fs : Nat → Nat → Prop}
set_option maxHeartbeats 4000000 in
theorem rcl_take (h : RClAt w B gx gq gl room s F Fs) (hd : s.don ≤ 1000000) (ha : s.acks ≤ 1000000) (k lb : Int) (A : Option Addr) (n c : Nat) :
    Calls Try.prog 23 #[.pointer (some ⟨gx, 0, none⟩), .agg #[.int .i64 k, .int .i64 lb, .slice A n c]] w (RTellR w B gx room (takeCS s k lb) F (takeCT s k)) := by
  have HW := hide (fun o => h.on ((Below.refl w.heap.size w).alloc (Nat.le_refl _) o))
  have HBA := hide (fun o => (Below.refl w.heap.size w).alloc (Nat.le_refl _) o)
  have HFT := hide h.ob.foot
  have k0 : ∀ o : Obj, (w.alloc o).cell? ⟨gx, 0, none⟩ = some (.pointer (some ⟨gq, 0, none⟩)) := fun o => (HW.out o).cells.1
  by_cases hk0 : k = 0
  · subst hk0
    have e1 : takeCS s 0 lb = s := by unfold takeCS; rw [if_pos rfl]
    have e2 : takeCT s 0 = [ansP s] := by unfold takeCT; rw [if_pos rfl]
    rw [e1, e2]
    have HAT := hide (fun o => rque_at (HW.out o).q 0)
    unfold RTellR ansP
    clear e1 e2
    cases hq : s.q with
    | nil =>
      rw [hq] at HAT
      rw [if_pos (by simp)]
      clear h
      go_enter Try.func23, Try.ntmps23
      go_wp2_with fail
      refine (HAT.out _).mono ?_; rintro e w1 ⟨D, cD, rfl, ho, hb⟩
      have HB := hide (below2 (HBA.out _) hb (by simp))
      have HC1 := hide ((HW.out _).on hb)
      clear ho hb HAT
      go_wp2
      go_ret
      exact ⟨_, _, F, rfl, prbs_one w1 2 0 none 0 [] 36 ⟨HB.out.size, fun hf => by have := (HC1.out.ob.foot _ hf).2; omega⟩ (Rd.nil _ _ _) (by simp) (fun h => by cases h), RCl.on ⟨_, _, _, HC1.out⟩ ((Below.refl _ _).alloc (Nat.le_refl _) _), (Turn.of_below HB.out).alloc _⟩
    | cons m ms =>
      have hml : m.length ≤ 64 := h.q.2.2.2.1 m (by rw [hq]; simp)
      rw [hq] at HAT
      rw [if_neg (by simp)]
      obtain ⟨lv, hlv⟩ : ∃ lv : Int, lv = ((s.don % 2 : Nat) : Int) := ⟨_, rfl⟩
      rw [← hlv]
      have hlv2 : (s.don : Int) % 2 = lv := by omega
      have HLV := hide hlv2
      clear h hlv hlv2
      go_enter Try.func23, Try.ntmps23
      go_wp2_with fail
      refine (HAT.out _).mono ?_; rintro e w1 ⟨D, cD, rfl, ho, hb⟩
      have HB := hide (below2 (HBA.out _) hb (by simp))
      have HC1 := hide ((HW.out _).on hb)
      have HO := hide ho
      have c3 := HC1.out.cells.2.2.2.1
      have hge : ∀ b o s', D = some ⟨b, o, s'⟩ → w.heap.size ≤ b := fun b o s' e => by
        have h1 := (own_block_lt ho (k := b) (by rw [e]; rfl)).1
        have h2 : (w.alloc (.cells #[.int .i64 0, .int .i64 lb, .slice A n c] 36)).heap.size = w.heap.size + 1 := by simp
        omega
      have HGE := hide hge
      clear ho hb HAT hge
      go_wp2
      go_ret
      rw [HLV.out]
      exact ⟨_, _, F, rfl, prbs_one w1 3 lv D cD m 36 ⟨HB.out.size, fun hf => by have := (HC1.out.ob.foot _ hf).2; omega⟩ (own_rd HO.out) (by omega) (fun _ b o s' e => ⟨HGE.out b o s' e, fun hf => by have := (HFT.out _ hf).2; have := HGE.out b o s' e; omega⟩), RCl.on ⟨_, _, _, HC1.out⟩ ((Below.refl _ _).alloc (Nat.le_refl _) _), (Turn.of_below HB.out).alloc _⟩
  · have e2 : takeCT s k = [] := by unfold takeCT; rw [if_neg hk0]
    rw [e2]
    have b0 : (k == 0) = false := by rw [beq_eq_false_iff_ne]; exact hk0
    by_cases hk4 : k = 4
    · subst hk4
      have e1 : takeCS s 4 lb = (if ackB s lb then ackedS (heardS s) else heardS s) := by unfold takeCS; rw [if_neg (by decide), if_pos rfl]
      obtain ⟨w1, hw1⟩ : ∃ w1, w1 = w.alloc (.cells #[.int .i64 4, .int .i64 lb, .slice A n c] 36) := ⟨_, rfl⟩
      have HM1 : Hid (RClAt w1 B gx gq gl room s F Fs) := by rw [hw1]; exact HW.out _
      have HX1 : Hid (Blk w1 w.heap.size 36 [.int .i64 4, .int .i64 lb, .slice A n c]) := by rw [hw1]; exact Blk.new w _ _
      have HB1 : Hid (Below w.heap.size w w1) := by rw [hw1]; exact HBA.out _
      have HW1 := hide hw1
      have hglt : gl < w.heap.size := (HFT.out gl (h.ob.sub 1 (by omega) gl h.lf).1).2
      have HNG : Hid (some w.heap.size ≠ some gl) := fun e => by injection e with e; omega
      have HE1 := hide e1
      clear e1 e2 hk0 h hw1
      go_enter Try.func23, Try.ntmps23
      go_upto_region 6 with (fail)
      rw [← HW1.out]
      go_cut [61] from 30 to 61 (fun s61 wr => s61 = .bool (!ackB s lb) ∧ Hid (∃ F2 Fs2, RClAt wr B gx gq gl room (heardS s) F2 Fs2 ∧ Turn F F2 w wr))
      case first =>
        have HHE := hide (rled_hear w1.drew gl s.led (HM1.out.on (Below.refl _ _).drew).l HM1.out.ok)
        have m1 : w1.cell? ⟨gx, 1, none⟩ = some (.pointer (some ⟨gl, 0, none⟩)) := HM1.out.cells.2.1
        have x0 : w1.cell? ⟨w.heap.size, 0, none⟩ = some (.int .i64 4) := HX1.out.cell (i := 0) rfl
        have hqf : s.q.length ≤ 16 := HM1.out.few
        have hor : (s.led.hearB = false ∧ ackB s lb = false) ∨ (s.led.hearB = true ∧ s.q.length = 0 ∧ ackB s lb = false) ∨ (s.led.hearB = true ∧ ((s.q.length : Int) == 0) = false ∧ (lb != (s.don : Int) % 2) = true ∧ ackB s lb = false) ∨ (s.led.hearB = true ∧ ((s.q.length : Int) == 0) = false ∧ (lb != (s.don : Int) % 2) = false ∧ ackB s lb = true) := by
          have hz : ((s.don % 2 : Nat) : Int) = (s.don : Int) % 2 := by omega
          unfold ackB
          rw [hz]
          cases s.led.hearB with
          | false => exact .inl ⟨rfl, rfl⟩
          | true =>
            by_cases hq : 0 < s.q.length
            · have hq0 : ((s.q.length : Int) == 0) = false := by rw [beq_eq_false_iff_ne]; omega
              cases hb : (lb == (s.don : Int) % 2) with
              | false => exact .inr (.inr (.inl ⟨rfl, hq0, by rw [bne, hb]; rfl, by simp⟩))
              | true => exact .inr (.inr (.inr ⟨rfl, hq0, by rw [bne, hb]; rfl, by simp [hq]⟩))
            · exact .inr (.inl ⟨rfl, by omega, by simp [hq]⟩)
        clear HE1
        have m0 : w1.cell? ⟨gx, 0, none⟩ = some (.pointer (some ⟨gq, 0, none⟩)) := HM1.out.cells.1
        have m3 : w1.cell? ⟨gx, 3, none⟩ = some (.int .i64 (s.don : Nat)) := HM1.out.cells.2.2.2.1
        have x1 : w1.cell? ⟨w.heap.size, 1, none⟩ = some (.int .i64 lb) := HX1.out.cell (i := 1) rfl
        rcases hor with ⟨hh, he⟩ | ⟨hh, hq, he⟩ | ⟨hh, hq, hb, he⟩ | ⟨hh, hq, hb, he⟩
        · have HHN := hide he
          rw [hh] at HHE
          clear he hh
          first | (go_region_law
           ((first
            | (go_simp; go_at_call 74; (with_reducible refine HHE.out.mono ?_); rintro e w4 ⟨rfl, hl4, hg4⟩; obtain ⟨F2, Fs2, h2, t2⟩ := (HM1.out.on (Below.refl _ _).drew).led hl4 hg4 (Led.ok_hear HM1.out.ok); have n0 := h2.cells.1; have n3 := h2.cells.2.2.2.1; obtain ⟨V, cV, nq⟩ := h2.row; have nx : w4.cell? ⟨w.heap.size, 1, none⟩ = some (.int .i64 lb) := (HX1.out.drew.kept (hg4.block _ HX1.out.drew.lt HNG.out)).cell (i := 1) rfl)))) | fail
          all_goals
            have H2 := hide h2
            have T2 := hide ((Turn.of_below HB1.out.drew).trans t2)
            clear h2 t2 hl4 hg4 n0 n3 nq nx
            go_wp2
            go_meet
            case rel => exact ⟨by rw [HHN.out]; try rfl, _, _, H2.out, T2.out⟩
        · have HHN := hide he
          rw [hh] at HHE
          clear he hh
          first | (go_region_law
           ((first
            | (go_simp; go_at_call 74; (with_reducible refine HHE.out.mono ?_); rintro e w4 ⟨rfl, hl4, hg4⟩; obtain ⟨F2, Fs2, h2, t2⟩ := (HM1.out.on (Below.refl _ _).drew).led hl4 hg4 (Led.ok_hear HM1.out.ok); have n0 := h2.cells.1; have n3 := h2.cells.2.2.2.1; obtain ⟨V, cV, nq⟩ := h2.row; rw [hq] at nq; have nx : w4.cell? ⟨w.heap.size, 1, none⟩ = some (.int .i64 lb) := (HX1.out.drew.kept (hg4.block _ HX1.out.drew.lt HNG.out)).cell (i := 1) rfl)))) | fail
          all_goals
            have H2 := hide h2
            have T2 := hide ((Turn.of_below HB1.out.drew).trans t2)
            clear h2 t2 hl4 hg4 n0 n3 nq nx
            go_wp2
            go_meet
            case rel => exact ⟨by rw [HHN.out]; try rfl, _, _, H2.out, T2.out⟩
        · have HHN := hide he
          rw [hh] at HHE
          clear he hh
          obtain ⟨_, hg0, _, _, V, cV, vs, hbk, _⟩ := HM1.out.q
          have mq : w1.cell? ⟨gq, 1, none⟩ = some (.slice V s.q.length cV) := hbk.cell (i := 1) rfl
          have hgne : some gq ≠ some gl := fun e => by
            injection e with e
            subst e
            exact HM1.out.ob.off 0 1 (by omega) (by omega) (by omega) _ hg0 HM1.out.lf
          have HRW := hide (fun w4 (hg4 : w1.drew.grownBy w4 (some gl)) => (show w4.cell? ⟨gq, 1, none⟩ = some (.slice V s.q.length cV) from (hbk.drew.kept (hg4.block gq hbk.drew.lt hgne)).cell (i := 1) rfl))
          clear hbk hgne hg0
          go_region_held3 (fun W => W.cell? ⟨gx, 0, none⟩ = some (.pointer (some ⟨gq, 0, none⟩)) ∧ W.cell? ⟨gx, 1, none⟩ = some (.pointer (some ⟨gl, 0, none⟩)) ∧ W.cell? ⟨gx, 3, none⟩ = some (.int .i64 (s.don : Nat)) ∧ W.cell? ⟨gq, 1, none⟩ = some (.slice V s.q.length cV) ∧ W.cell? ⟨w.heap.size, 0, none⟩ = some (.int .i64 4) ∧ W.cell? ⟨w.heap.size, 1, none⟩ = some (.int .i64 lb)) (first
            | exact ⟨n0, n1, n3, nq, ny, nx⟩
            | exact ⟨m0, m1, m3, mq, x0, x1⟩
            | go_keep)
           ((first
            | (go_at_call 74; (with_reducible refine HHE.out.mono ?_); rintro e w4 ⟨rfl, hl4, hg4⟩; obtain ⟨F2, Fs2, h2, t2⟩ := (HM1.out.on (Below.refl _ _).drew).led hl4 hg4 (Led.ok_hear HM1.out.ok); have n0 := h2.cells.1; have n1 := h2.cells.2.1; have n3 := h2.cells.2.2.2.1; have nq := HRW.out w4 hg4; have nx : w4.cell? ⟨w.heap.size, 1, none⟩ = some (.int .i64 lb) := (HX1.out.drew.kept (hg4.block _ HX1.out.drew.lt HNG.out)).cell (i := 1) rfl; have ny : w4.cell? ⟨w.heap.size, 0, none⟩ = some (.int .i64 4) := (HX1.out.drew.kept (hg4.block _ HX1.out.drew.lt HNG.out)).cell (i := 0) rfl)))
          all_goals
            have H2 := hide h2
            have T2 := hide ((Turn.of_below HB1.out.drew).trans t2)
            clear h2 t2 hl4 hg4 n0 n1 n3 nq nx ny
            go_wp2
            go_meet
            case rel => exact ⟨by rw [HHN.out, Int.tmod_eq_emod_of_nonneg (show (0 : Int) ≤ (s.don : Int) by omega), hb]; rfl, _, _, H2.out, T2.out⟩
        · have HHN := hide he
          rw [hh] at HHE
          clear he hh
          obtain ⟨_, hg0, _, _, V, cV, vs, hbk, _⟩ := HM1.out.q
          have mq : w1.cell? ⟨gq, 1, none⟩ = some (.slice V s.q.length cV) := hbk.cell (i := 1) rfl
          have hgne : some gq ≠ some gl := fun e => by
            injection e with e
            subst e
            exact HM1.out.ob.off 0 1 (by omega) (by omega) (by omega) _ hg0 HM1.out.lf
          have HRW := hide (fun w4 (hg4 : w1.drew.grownBy w4 (some gl)) => (show w4.cell? ⟨gq, 1, none⟩ = some (.slice V s.q.length cV) from (hbk.drew.kept (hg4.block gq hbk.drew.lt hgne)).cell (i := 1) rfl))
          clear hbk hgne hg0
          go_region_held3 (fun W => W.cell? ⟨gx, 0, none⟩ = some (.pointer (some ⟨gq, 0, none⟩)) ∧ W.cell? ⟨gx, 1, none⟩ = some (.pointer (some ⟨gl, 0, none⟩)) ∧ W.cell? ⟨gx, 3, none⟩ = some (.int .i64 (s.don : Nat)) ∧ W.cell? ⟨gq, 1, none⟩ = some (.slice V s.q.length cV) ∧ W.cell? ⟨w.heap.size, 0, none⟩ = some (.int .i64 4) ∧ W.cell? ⟨w.heap.size, 1, none⟩ = some (.int .i64 lb)) (first
            | exact ⟨n0, n1, n3, nq, ny, nx⟩
            | exact ⟨m0, m1, m3, mq, x0, x1⟩
            | go_keep)
           ((first
            | (go_at_call 74; (with_reducible refine HHE.out.mono ?_); rintro e w4 ⟨rfl, hl4, hg4⟩; obtain ⟨F2, Fs2, h2, t2⟩ := (HM1.out.on (Below.refl _ _).drew).led hl4 hg4 (Led.ok_hear HM1.out.ok); have n0 := h2.cells.1; have n1 := h2.cells.2.1; have n3 := h2.cells.2.2.2.1; have nq := HRW.out w4 hg4; have nx : w4.cell? ⟨w.heap.size, 1, none⟩ = some (.int .i64 lb) := (HX1.out.drew.kept (hg4.block _ HX1.out.drew.lt HNG.out)).cell (i := 1) rfl; have ny : w4.cell? ⟨w.heap.size, 0, none⟩ = some (.int .i64 4) := (HX1.out.drew.kept (hg4.block _ HX1.out.drew.lt HNG.out)).cell (i := 0) rfl)))
          all_goals
            have H2 := hide h2
            have T2 := hide ((Turn.of_below HB1.out.drew).trans t2)
            clear h2 t2 hl4 hg4 n0 n1 n3 nq nx ny
            go_wp2
            go_meet
            case rel => exact ⟨by rw [HHN.out, Int.tmod_eq_emod_of_nonneg (show (0 : Int) ≤ (s.don : Int) by omega), hb]; rfl, _, _, H2.out, T2.out⟩
      case rest =>
        obtain ⟨rfl, hrr⟩ := hcut
        obtain ⟨F2, Fs2, h2, t2⟩ := hrr.out
        obtain ⟨s2, hs2⟩ : ∃ s2, s2 = heardS s := ⟨_, rfl⟩
        have hq2 : s2.q = s.q := by rw [hs2]; rfl
        have ha2 : s2.acks ≤ 1000000 := by rw [hs2]; exact ha
        have hd2 : s2.don ≤ 1000000 := by rw [hs2]; exact hd
        rw [← hs2] at h2
        have HS2 := hide hs2
        clear hrr HM1 HX1 HB1 HW1 HNG hs2 HW HBA HFT k0 b0 hglt
        cases hab : ackB s lb with
        | false =>
          have HAB := hide hab
          have H2 := hide h2
          have T2 := hide t2
          clear h2 t2 hab
          go_wp2
          go_ret
          unfold RTellR
          rw [HE1.out, HAB.out, if_neg (by simp), ← HS2.out]
          exact ⟨none, 0, F2, rfl, Prbs.nil _ _ _, ⟨_, _, _, H2.out⟩, T2.out⟩
        | true =>
          have HAB := hide hab
          have hql : 0 < s2.q.length := by rw [hq2]; unfold ackB at hab; simp at hab; exact hab.2.1
          clear hq2 hab
          have c4 := h2.cells.2.2.2.2
          have f4 := h2.ob.blk.free 4
          obtain ⟨h3, t3⟩ := h2.setAcks (s2.acks + 1)
          obtain ⟨w3, hw3⟩ : ∃ w3, w3 = wc.setCell ⟨gx, 4, none⟩ (.int .u64 ((s2.acks + 1 : Nat) : Int)) := ⟨_, rfl⟩
          rw [← hw3] at h3 t3
          have hw3b : wc.setCell ⟨gx, 4, none⟩ (.int .u64 ((s2.acks : Int) + 1)) = w3 := by rw [hw3]; rfl
          obtain ⟨d0, d1, d2, d3, d4⟩ := h3.cells
          have HA := hide h3
          have HT := hide (t2.trans t3)
          obtain ⟨na, hna⟩ : ∃ na : Int, na = ((s2.acks + 1 : Nat) : Int) := ⟨_, rfl⟩
          have HEN := hide (rled_enough w3.drew gl s2.led na (h3.on (Below.refl _ _).drew).l)
          have HWB := hide hw3b
          have hee : ackedS s2 = if s2.led.enough na then turnsC { s2 with acks := s2.acks + 1, q := s2.q.tail, don := s2.don + 1 } else { s2 with acks := s2.acks + 1 } := by rw [hna]; rfl
          have HEE := hide hee
          have d4' : w3.cell? ⟨gx, 4, none⟩ = some (.int .u64 na) := by rw [hna]; exact d4
          clear h2 t2 h3 t3 hw3 hw3b hna d4 hee
          cases hen : s2.led.enough na with
          | false =>
            rw [hen] at HEN HEE
            rw [if_neg (by simp)] at HEE
            go_upto_region 9 with (fail)
            rw [HWB.out]
            go_region_held3 (fun W => W.cell? ⟨gx, 1, none⟩ = some (.pointer (some ⟨gl, 0, none⟩)) ∧ W.cell? ⟨gx, 4, none⟩ = some (.int .u64 na)) (first
              | exact ⟨d1, d4'⟩
              | go_keep)
             ((first
              | (go_at_call 75; (with_reducible refine HEN.out.mono ?_); rintro e w4 ⟨rfl, rfl⟩)))
            go_wp2
            go_ret
            unfold RTellR
            rw [HE1.out, HAB.out, if_pos rfl, ← HS2.out, HEE.out]
            exact ⟨none, 0, F2, rfl, Prbs.nil _ _ _, ⟨_, _, _, HA.out.on (Below.refl _ _).drew⟩, HT.out.drew⟩
          | true =>
            rw [hen] at HEN HEE
            rw [if_pos rfl] at HEE
            go_upto_region 9 with (fail)
            rw [HWB.out]
            go_region_held3 (fun W => W.cell? ⟨gx, 1, none⟩ = some (.pointer (some ⟨gl, 0, none⟩)) ∧ W.cell? ⟨gx, 4, none⟩ = some (.int .u64 na)) (first
              | exact ⟨d1, d4'⟩
              | go_keep)
             ((first
              | (go_at_call 75; (with_reducible refine HEN.out.mono ?_); rintro e w4 ⟨rfl, rfl⟩)))
            have HP := hide (rque_pop (HA.out.on (Below.refl _ _).drew).q)
            go_wp2_with fail
            refine HP.out.mono ?_; rintro e w4 ⟨A5, c5, F5, rfl, _, hq4, ht4⟩
            obtain ⟨F6, Fs6, h6, t6⟩ := (HA.out.on (Below.refl _ _).drew).que hq4 ht4
            have e3 := h6.cells.2.2.2.1
            have f3 := h6.ob.blk.free 3
            obtain ⟨h7, t7⟩ := h6.setDon (s2.don + 1)
            have T7 := hide (HT.out.drew.trans (t6.trans t7))
            have H7 := hide h7
            obtain ⟨w7, hw7⟩ : ∃ w7, w7 = w4.setCell ⟨gx, 3, none⟩ (.int .i64 ((s2.don + 1 : Nat) : Int)) := ⟨_, rfl⟩
            rw [← hw7] at H7 T7
            have hw7b : w4.setCell ⟨gx, 3, none⟩ (.int .i64 ((s2.don : Int) + 1)) = w7 := by rw [hw7]; rfl
            have HW7 := hide hw7b
            clear hq4 ht4 h6 t6 h7 t7 HP hw7 hw7b
            go_upto_region 12 with (fail)
            rw [HW7.out]
            obtain ⟨V, cV, mq⟩ := H7.out.row
            have m0 := H7.out.cells.1
            have hfew := H7.out.few
            rcases Nat.eq_zero_or_pos s2.q.tail.length with hz | hz
            · have mq' : w7.cell? ⟨gq, 1, none⟩ = some (.slice V 0 cV) := by rw [← hz]; exact mq
              have hee2 : turnsC { s2 with acks := s2.acks + 1, q := s2.q.tail, don := s2.don + 1 } = { s2 with acks := s2.acks + 1, q := s2.q.tail, don := s2.don + 1 } := by unfold turnsC; rw [if_neg (by show ¬ 0 < s2.q.tail.length; omega)]
              have HE2 := hide hee2
              clear mq hz hee2
              go_wp2
              go_ret
              unfold RTellR
              rw [HE1.out, HAB.out, if_pos rfl, ← HS2.out, HEE.out, HE2.out]
              exact ⟨none, 0, _, rfl, Prbs.nil _ _ _, ⟨_, _, _, H7.out⟩, T7.out⟩
            · have hpos : (0 : Int) < ((s2.q.tail.length : Nat) : Int) := by omega
              have hee2 : turnsC { s2 with acks := s2.acks + 1, q := s2.q.tail, don := s2.don + 1 } = nextC { s2 with acks := s2.acks + 1, q := s2.q.tail, don := s2.don + 1 } := turns_next hz
              have HE2 := hide hee2
              have HN := hide (rcl_next H7.out)
              obtain ⟨nt, hnt⟩ : ∃ nt : Nat, nt = s2.q.tail.length := ⟨_, rfl⟩
              rw [← hnt] at mq hfew hpos
              clear hee2 hz hnt
              go_wp2_with fail
              refine HN.out.mono ?_; rintro e w8 ⟨rfl, F8, Fs8, h8, t8⟩
              have H8 := hide h8
              have T8 := hide (T7.out.trans t8)
              clear h8 t8 HN
              go_wp2
              go_ret
              unfold RTellR
              rw [HE1.out, HAB.out, if_pos rfl, ← HS2.out, HEE.out, HE2.out]
              exact ⟨none, 0, _, rfl, Prbs.nil _ _ _, ⟨_, _, _, H8.out⟩, T8.out⟩
    · have e1 : takeCS s k lb = s := by unfold takeCS; rw [if_neg hk0, if_neg hk4]
      rw [e1]
      have b4 : (k != 4) = true := by simp; exact hk4
      clear e1 e2 hk4 hk0 h
      unfold RTellR
      go_enter Try.func23, Try.ntmps23
      go_wp2
      go_quiet (fail)
      go_wp2
      go_ret
      exact ⟨none, 0, F, rfl, Prbs.nil _ _ _, ⟨_, _, _, (HW.out _).on (below_drewN (Below.refl _ _) _)⟩, (Turn.of_below (HBA.out _)).drewN _⟩
end
end Go.Proofs.Ytnbhgeodbpelgaa
