/- Layer 21: the law HearerDoes, walked. No conditions. -/
import Derived.Test.YtnbhgeodbpelgaaHeP
import Derived.Test.YtnbhgeodbpelgaaHeQ
import Derived.Deep.CutRange
import Derived.Deep.CutBlock
namespace Go.Proofs.Ytnbhgeodbpelgaa
open Go.RowKit
set_option linter.unusedVariables false
attribute [local go_sem ↓] Go.wp_at_zero Go.wp_at_succ

theorem enterS_few (R : Nat) (s : Hst) : (enterS R s).ent ≤ s.ent + 1 ∧ (enterS R s).ret = s.ret ∧ tot (enterS R s).t ≤ tot s.t := by
  unfold enterS
  split
  · exact ⟨Nat.le_succ _, rfl, Nat.le_refl _⟩
  · split
    · exact ⟨Nat.le_succ _, rfl, Nat.le_refl _⟩
    · split
      · exact ⟨Nat.le_succ _, rfl, Nat.le_refl _⟩
      · split
        · exact ⟨Nat.le_succ _, rfl, Nat.le_refl _⟩
        · exact ⟨Nat.le_refl _, rfl, by simp [tot]⟩
theorem takeHS_few (R : Nat) (s : Hst) (k lb : Int) (m : List Nat) : (takeHS R s k lb m).ent ≤ s.ent + 1 ∧ (takeHS R s k lb m).ret ≤ s.ret + 1 ∧ tot (takeHS R s k lb m).t ≤ tot s.t + 1 := by
  unfold takeHS
  split
  · exact ⟨Nat.le_succ _, Nat.le_succ _, Nat.le_succ _⟩
  · split
    · split
      · obtain ⟨h1, h2, h3⟩ := enterS_few R { heardH s with t := addT s.t lb m }
        refine ⟨h1, ?_, ?_⟩
        · rw [h2]; exact Nat.le_succ _
        · exact Nat.le_trans h3 (Nat.le_of_eq (tot_add s.t lb m))
      · exact ⟨Nat.le_succ _, Nat.le_succ _, Nat.le_succ _⟩
    · exact ⟨Nat.le_succ _, Nat.le_succ _, Nat.le_succ _⟩
theorem recvHS_few (R : Nat) (s : Hst) : (recvHS R s).ent ≤ s.ent + 1 ∧ (recvHS R s).ret ≤ s.ret + 1 ∧ tot (recvHS R s).t ≤ tot s.t + 1 := by
  unfold recvHS
  split
  · exact ⟨Nat.le_succ _, Nat.le_succ _, Nat.le_succ _⟩
  · rename_i m ms hq
    obtain ⟨h1, h2, h3⟩ := enterS_few R { s with q := ms, ret := s.ret + 1 }
    exact ⟨h1, by rw [h2]; exact Nat.le_refl _, by dsimp only at h3; omega⟩
theorem takeHT_len (s : Hst) (k : Int) : (takeHT s k).length ≤ 1 := by unfold takeHT; split <;> simp
theorem htickT_len (s : Hst) : (htickT s).length ≤ 1 := by unfold htickT; split <;> simp
/-- the first text of the queue, in both forms. -/
theorem head_get (q : List (List Nat)) : q[0]?.getD [] = q.headD [] ∧ q[0]?.isSome = decide (0 < q.length) := by
  cases q <;> simp
set_option maxRecDepth 100000 in
theorem hdoes_bad (r : Int) (n : Nat) {w : World} {a : Option Addr} {c : Nat} {l : List Act21} (hr : r < 1 ∨ 16 < r) (hl : InA21 w a c l) :
    Calls Try.prog 7 #[.int .i64 r, .int .u64 (n : Nat), .slice a l.length c] w fun e w' => e = .returned (.bool true) ∧ Below w.heap.size w w' := by
  have HH := hide (huge21 hl)
  have HX := hide (fun W => he_bad r hr n W)
  have HY := hide (fun W => rhe_bad r hr n W)
  have hll : l.length ≤ 9223372036854775807 := Nat.le_trans hl.cap hl.max
  clear hl hr
  go_enter Try.func7, Try.ntmps7
  go_wp2_with fail
  refine HH.out.mono ?_; rintro e w' ⟨b, rfl, rfl, _⟩
  cases b
  · go_wp2_with fail
    refine (HX.out _).mono ?_; rintro e w' ⟨rfl, rfl⟩
    go_wp2_with fail
    refine (HY.out _).mono ?_; rintro e w' ⟨rfl, rfl⟩
    go_wp2_with fail
    refine (num21 _ _).mono ?_; rintro e w' ⟨rfl, rfl⟩
    go_wp2
    go_loop [11] (fun i => i = .int .i64 0) (fun _ => 0)
    case atStart => rfl
    case round =>
      subst hrel
      by_cases h0 : 0 < l.length
      · go_wp2_with fail
        refine (live21 _).mono ?_; rintro e w' ⟨rfl, hb⟩
        go_wp2
        go_ret
        exact ⟨rfl, hb⟩
      · go_wp2_with fail
        refine (live21 _).mono ?_; rintro e w' ⟨rfl, hb⟩
        go_wp2
        go_ret
        exact ⟨rfl, hb⟩
  · go_wp2_with fail
    refine (live21 _).mono ?_; rintro e w' ⟨rfl, hb⟩
    go_wp2
    go_ret
    exact ⟨rfl, hb⟩
/-- what the loop keeps. -/
def KeepH (w0 wr : World) (B2 gx gy R : Nat) (k : Nat) : Prop := ∃ s F G, BothH w0 wr B2 gx gy R s F G ∧ s.ent ≤ k ∧ s.ret ≤ k ∧ tot s.t ≤ k
set_option maxRecDepth 100000 in
set_option maxHeartbeats 8000000 in
theorem hdoes_in (R : Nat) (hR : 1 ≤ R) (hR2 : R ≤ 16) (n : Nat) (hn : n < 18446744073709551616) {w : World} {a : Option Addr} {c : Nat} {l : List Act21} (hl : InA21 w a c l) :
    Calls Try.prog 7 #[.int .i64 (R : Nat), .int .u64 (n : Nat), .slice a l.length c] w fun e w' => e = .returned (.bool true) ∧ Below w.heap.size w w' := by
  have HH := hide (huge21 hl)
  have HX := hide (fun W => he_new (R : Nat) (by omega) (by omega) n hn W)
  have HY := hide (fun W => rhe_new (R : Nat) (by omega) (by omega) n hn W)
  rw [Int.toNat_natCast] at HX HY
  have HL := hide hl
  have hll : l.length ≤ 9223372036854775807 := Nat.le_trans hl.cap hl.max
  clear hl hR hR2 hn
  go_enter Try.func7, Try.ntmps7
  go_wp2_with fail
  refine HH.out.mono ?_; rintro e w' ⟨b, rfl, rfl, hsm⟩
  have HSM := hide hsm
  clear hsm HH
  cases b
  case true =>
    go_wp2_with fail
    refine (live21 _).mono ?_; rintro e w' ⟨rfl, hb⟩
    go_wp2
    go_ret
    exact ⟨rfl, hb⟩
  case false =>
    have hl100 : l.length ≤ 100 := (HSM.out rfl).1
    have HSM2 := hide (HSM.out rfl).2
    clear HSM
    go_wp2_with fail
    refine (HX.out w).mono ?_; rintro e w1 ⟨gx, F1, rfl, hm1, hb1⟩
    have HM1 := hide hm1
    have HB1 := hide hb1
    clear hm1 hb1 HX
    go_wp2_with fail
    refine (HY.out w1).mono ?_; rintro e w2 ⟨gy, G1, rfl, hr2, hb2⟩
    have HBO : Hid (BothH w w2 w1.heap.size gx gy R (newH n) F1 G1) :=
      ⟨HM1.out.on hb2, hr2, Off.new HM1.out.foot hr2.foot (Nat.le_refl _), HB1.out.size, below2 HB1.out hb2 (Nat.le_refl _)⟩
    clear hr2 hb2 HY
    go_wp2_with fail
    refine (num21 _ _).mono ?_; rintro e w' ⟨rfl, rfl⟩
    go_wp2
    go_loopw [11] (fun i wr => ∃ k : Nat, k ≤ l.length ∧ i = .int .i64 k ∧ Hid (KeepH w wr w1.heap.size gx gy R k)) (fun i _ => l.length - (intOf i).toNat)
    case atStart => exact ⟨0, Nat.zero_le _, rfl, _, _, _, HBO.out, Nat.le_refl _, Nat.le_refl _, Nat.le_refl _⟩
    case round =>
      obtain ⟨k, hk, rfl, hrel⟩ := hrel
      obtain ⟨s, F, G, hbo, he, hr, hu⟩ := hrel.out
      have HB := hide hbo
      have HE := hide he
      have HR := hide hr
      have HU := hide hu
      clear hrel hbo he hr hu HBO
      by_cases hlt : k < l.length
      · obtain ⟨⟨d, p⟩, hpm⟩ : ∃ x, l[k]? = some x := ⟨_, List.getElem?_eq_getElem hlt⟩
        obtain ⟨b, o, u, rfl, hbl, hc, ⟨⟨A5, c5, rfl, hrd5, hby5, hl5, _⟩, _, _⟩, _⟩ := HL.out.rd k _ hpm
        have HLN := hide (HSM2.out k _ hpm)
        obtain ⟨pk, pl, pd⟩ := p
        dsimp only at hrd5 hl5 hby5 HLN
        have HCL := hide (fun (W : World) (hb : Below w.heap.size w W) => (show W.cell? ⟨b, o + k * 4 + 1, none⟩ = some (.int .i64 pk) ∧ W.cell? ⟨b, o + k * 4 + 2, none⟩ = some (.int .i64 pl) ∧ W.cell? ⟨b, o + k * 4 + 3, none⟩ = some (.slice A5 pd.length c5) from
          ⟨(hb.cell (p := ⟨b, o + k * 4 + 1, none⟩) hbl).trans (hc 1 _ rfl), (hb.cell (p := ⟨b, o + k * 4 + 2, none⟩) hbl).trans (hc 2 _ rfl), (hb.cell (p := ⟨b, o + k * 4 + 3, none⟩) hbl).trans (hc 3 _ rfl)⟩))
        have q0 := (HB.out.bel.cell (p := ⟨b, o + k * 4, none⟩) hbl).trans (hc 0 _ rfl)
        dsimp only at q0
        have HRD5 := hide hrd5
        have HBY5 := hide hby5
        have g0 : (0 : Int) ≤ (k : Int) := by omega
        have g3 : (k : Int) < (l.length : Int) := by omega
        clear hpm hc hrd5 hby5 hbl
        go_upto_block 2 with (fail)
        clear q0
        go_cut [] from 57 to 103 (fun wr => Hid (KeepH w wr w1.heap.size gx gy R (k + 1)))
        case first =>
          by_cases d0 : d = 0
          · subst d0
            have HT1 : Hid (Calls Try.prog 31 #[.pointer (some ⟨gx, 0, none⟩)] wr (HTellR wr w.heap.size gx R (htickS s) F (htickT s))) := by
              obtain ⟨gq, gl, gt, Fs, h⟩ := HB.out.m
              exact he_tick h
            have HT2 : Hid (∀ w3 F3 (hu3 : Turn F F3 wr w3), Calls Try.prog 38 #[.pointer (some ⟨gy, 0, none⟩)] w3 (RHTellR w3 w1.heap.size gy R (htickS s) G (htickT s))) := fun w3 F3 hu3 => by
              obtain ⟨gq, gl, gt, Fs, h⟩ := HB.out.mid hu3
              exact rhe_tick h
            unfold HTellR at HT1
            unfold RHTellR at HT2
            obtain ⟨ts, hts⟩ : ∃ ts, ts = htickT s := ⟨_, rfl⟩
            have htl : ts.length ≤ 1 := by rw [hts]; exact htickT_len s
            simp only [← hts] at HT1 HT2
            clear hts
            go_wp2_with fail
            refine HT1.out.mono ?_; rintro e w3 ⟨A3, c3, F3, rfl, hp3, hm3, hu3⟩
            have HT3 := hide (HT2.out w3 F3 hu3)
            have HM3 := hide hm3
            have HU3 := hide hu3
            have HP3 := hide hp3
            clear hm3 hu3 hp3 HT1 HT2
            go_wp2_with fail
            refine HT3.out.mono ?_; rintro e w4 ⟨A4, c4, G4, rfl, hp4, hr4, hu4⟩
            have HZ := hide (HB.out.step HU3.out HM3.out hu4 hr4)
            have HQ := hide (prbs_same (c := c3) (d := c4) (HB.out.prbs HP3.out hu4) hp4 (by omega))
            clear hr4 hu4 hp4 HT3
            go_wp2_with fail
            refine HQ.out.mono ?_; rintro e w5 ⟨rfl, hb5⟩
            have HZ2 := hide (HZ.out.on hb5)
            clear hb5
            go_wp2
            go_meet
            case rel =>
              have := HE.out; have := HR.out; have := HU.out
              exact ⟨_, _, _, HZ2.out, by show s.ent ≤ k + 1; omega, by show s.ret ≤ k + 1; omega, by show tot s.t ≤ k + 1; omega⟩
          · have e0 : (d == 0) = false := by simp; exact d0
            by_cases d1 : d = 1
            · subst d1
              have HBD := hide (HB.out.on (Below.refl _ _).drew)
              have HRW : Hid (∀ W, Below w.heap.size w W → Rd W.heap.size W A5 (u8s pd)) := fun W hb => (HRD5.out.below hb (Nat.le_refl _)).more hb.size
              have HNF : Hid (0 < (u8s pd).length → ∀ b' o' s', A5 = some ⟨b', o', s'⟩ → b' < w.heap.size) := fun hn b' o' s' e => by
                obtain ⟨b2, o2, e2, hb2, _⟩ := HRD5.out hn
                rw [e] at e2
                injection e2 with e2
                injection e2 with e2
                omega
              have HT1 : Hid (Calls Try.prog 33 #[.pointer (some ⟨gx, 0, none⟩), .agg #[.int .i64 pk, .int .i64 pl, .slice A5 pd.length c5]] wr.drew (HTellR wr.drew w.heap.size gx R (takeHS R s pk pl pd) F (takeHT s pk))) := by
                obtain ⟨gq, gl, gt, Fs, h⟩ := HBD.out.m
                exact he_take h (by have := HE.out; omega) (by have := HU.out; omega) pk pl A5 c5 pd (HRW.out _ HBD.out.bel) (fun hn b' o' s' e hf => by have := HNF.out hn b' o' s' e; have := (h.ob.foot b' hf).1; omega) HBY5.out (fun _ => by have := HLN.out; omega)
              have HT2 : Hid (∀ w3 F3 (hu3 : Turn F F3 wr.drew w3), Calls Try.prog 39 #[.pointer (some ⟨gy, 0, none⟩), .agg #[.int .i64 pk, .int .i64 pl, .slice A5 pd.length c5]] w3 (RHTellR w3 w1.heap.size gy R (takeHS R s pk pl pd) G (takeHT s pk))) := fun w3 F3 hu3 => by
                obtain ⟨gq, gl, gt, Fs, h⟩ := HBD.out.mid hu3
                exact rhe_take h (by have := HE.out; omega) (by have := HU.out; omega) pk pl A5 c5 pd (HRW.out _ (HBD.out.bel1 hu3)) (fun hn b' o' s' e hf => by have := HNF.out hn b' o' s' e; have := (h.ob.foot b' hf).1; have := HB.out.lo; omega) HBY5.out (fun _ => by have := HLN.out; omega)
              unfold HTellR at HT1
              unfold RHTellR at HT2
              obtain ⟨ts, hts⟩ : ∃ ts, ts = takeHT s pk := ⟨_, rfl⟩
              have HTL : Hid (ts.length ≤ 9223372036854775807) := by have := takeHT_len s pk; exact hide (by rw [hts]; omega)
              simp only [← hts] at HT1 HT2
              have HPB := hide (fun (w3 : World) (A : Option Addr) (F3 : Nat → Prop) (hp3 : Prbs (fun k => wr.drew.heap.size ≤ k ∧ ¬ F3 k) w3 A ts) w4 G4 (hu4 : Turn G G4 w3 w4) => HBD.out.prbs hp3 hu4)
              obtain ⟨q1, q2, q3⟩ := HCL.out wr HB.out.bel
              clear hts d0 e0 HRW HNF
              go_wp2
              go_region_held3 (fun W => W.cell? ⟨b, o + k * 4 + 1, none⟩ = some (.int .i64 pk) ∧ W.cell? ⟨b, o + k * 4 + 2, none⟩ = some (.int .i64 pl) ∧ W.cell? ⟨b, o + k * 4 + 3, none⟩ = some (.slice A5 pd.length c5)) (first
                  | exact HCL.out _ (below2 (HBD.out.bel2 hu3 hu4) hb5 (Nat.le_refl _))
                  | exact HCL.out _ (HBD.out.bel2 hu3 hu4)
                  | exact HCL.out _ (HBD.out.bel1 hu3)
                  | exact HCL.out _ HBD.out.bel)
                ((first
                  | (go_at_call 33; (with_reducible refine HT1.out.mono ?_); rintro e w3 ⟨A3, c3, F3, rfl, hp3, hm3, hu3⟩)
                  | (go_at_call 39; (with_reducible refine (HT2.out _ _ hu3).mono ?_); rintro e w4 ⟨A4, c4, G4, rfl, hp4, hr4, hu4⟩)
                  | (go_at_call 19; (with_reducible refine (prbs_same (HPB.out _ _ _ hp3 _ _ hu4) hp4 HTL.out).mono ?_); rintro e w5 ⟨rfl, hb5⟩)))
              have HZ := hide ((HBD.out.step hu3 hm3 hu4 hr4).on hb5)
              clear hp3 hm3 hu3 hp4 hr4 hu4 hb5
              go_wp2
              go_meet
              case rel =>
                have hf := takeHS_few R s pk pl pd
                have := HE.out; have := HR.out; have := HU.out
                exact ⟨_, _, _, HZ.out, by omega, by omega, by omega⟩
            · have e1 : (d == 1) = false := by simp; exact d1
              by_cases d2 : d = 2
              · subst d2
                have HT1 : Hid (Calls Try.prog 35 #[.pointer (some ⟨gx, 0, none⟩)] wr (HRecR wr w.heap.size gx R s F)) := by
                  obtain ⟨gq, gl, gt, Fs, h⟩ := HB.out.m
                  exact he_recv h (by have := HE.out; omega) (by have := HR.out; omega) (by have := HU.out; omega)
                have HT2 : Hid (∀ w3 F3 (hu3 : Turn F F3 wr w3), Calls Try.prog 40 #[.pointer (some ⟨gy, 0, none⟩)] w3 (RHRecR w3 w1.heap.size gy R s G)) := fun w3 F3 hu3 => by
                  obtain ⟨gq, gl, gt, Fs, h⟩ := HB.out.mid hu3
                  exact rhe_recv h (by have := HE.out; omega) (by have := HR.out; omega) (by have := HU.out; omega)
                have HML : Hid ((s.q.headD []).length ≤ 64) := by
                  obtain ⟨gq, gl, gt, Fs, h⟩ := HB.out.r
                  have hsm := h.q.2.2.2.1
                  refine hide ?_
                  cases hq : s.q with
                  | nil => simp
                  | cons m ms => exact hsm m (by rw [hq]; exact List.mem_cons_self ..)
                unfold HRecR at HT1
                unfold RHRecR at HT2
                simp only [(head_get s.q).1, (head_get s.q).2] at HT2
                obtain ⟨f, hf⟩ : ∃ f, f = s.q.headD [] := ⟨_, rfl⟩
                obtain ⟨bb, hbb⟩ : ∃ bb, bb = decide (0 < s.q.length) := ⟨_, rfl⟩
                rw [← hf] at HML
                have hml := HML.out
                simp only [← hf, ← hbb] at HT1 HT2
                have hne : (bb != bb) = false := by simp
                clear hf hbb d0 d1 e0 HML
                go_wp2_with fail
                refine HT1.out.mono ?_; rintro e w3 ⟨A3, c3, F3, rfl, ho3, hn3, hm3, hu3⟩
                have HT3 := hide (HT2.out w3 F3 hu3)
                have HM3 := hide hm3
                have HU3 := hide hu3
                have HO3 := hide ho3
                clear hm3 hu3 ho3 hn3 HT1 HT2
                go_wp2_with fail
                refine HT3.out.mono ?_; rintro e w4 ⟨A4, c4, G4, rfl, hrd4, hr4, hu4⟩
                have HZ := hide (HB.out.step HU3.out HM3.out hu4 hr4)
                have HQ := hide (same_eq (c := c3) (d := c4) (own_rd (HB.out.own HO3.out hu4)) hrd4 (by omega))
                clear hrd4 hr4 hu4 HT3
                go_wp2_with fail
                refine HQ.out.mono ?_; rintro e w5 ⟨rfl, hb5⟩
                have HZ2 := hide (HZ.out.on hb5)
                clear hb5
                go_wp2
                go_meet
                case rel =>
                  have hf := recvHS_few R s
                  have := HE.out; have := HR.out; have := HU.out
                  exact ⟨_, _, _, HZ2.out, by omega, by omega, by omega⟩
              · have e2 : (d == 2) = false := by simp; exact d2
                clear d0 d1 d2
                go_wp2
                go_meet
                case rel =>
                  have := HE.out; have := HR.out; have := HU.out
                  exact ⟨_, _, _, HB.out, by omega, by omega, by omega⟩
        case rest =>
          obtain ⟨s2, F5, G5, hbo, he, hr, hu⟩ := hcut.out
          have HB5 := hide hbo
          have HE5 := hide he
          have HR5 := hide hr
          have HU5 := hide hu
          have HAL := hide (alike21 hbo)
          clear hcut hbo he hr hu HB HE HR HU
          go_wp2_with fail
          refine HAL.out.mono ?_; rintro e w6 ⟨rfl, hb6⟩
          have HZ := hide (HB5.out.on hb6)
          clear hb6
          go_wp2
          go_roundw
          case rel => exact ⟨k + 1, by omega, by go_num, s2, F5, G5, HZ.out, HE5.out, HR5.out, HU5.out⟩
          case measure => simp [intOf]; omega
      · obtain rfl : k = l.length := by omega
        go_wp2_with fail
        refine (live21 _).mono ?_; rintro e w' ⟨rfl, hb⟩
        go_wp2
        go_ret
        exact ⟨rfl, below2 HB.out.bel hb (Nat.le_refl _)⟩
theorem walk_HearerDoes (w : World) (r : Int) (hr : Fit r) (n : Nat) (hn : n < 18446744073709551616) (a : Option Addr) (c : Nat) (l : List Act21) (hl : InA21 w a c l) :
    Calls Try.prog 7 #[.int .i64 r, .int .u64 (n : Nat), .slice a l.length c] w fun e w' => e = .returned (.bool true) ∧ Below w.heap.size w w' := by
  by_cases h : r < 1 ∨ 16 < r
  · exact hdoes_bad r n h hl
  · obtain ⟨R, rfl⟩ := Int.eq_ofNat_of_zero_le (show 0 ≤ r by omega)
    exact hdoes_in R (by omega) (by omega) n hn hl
end Go.Proofs.Ytnbhgeodbpelgaa
