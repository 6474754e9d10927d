/- Layer 20: the law CallerDoes, walked. No conditions. -/
import Derived.Test.YtnbhgeodbpelgaaCalJ
import Derived.Deep.CutRange
import Derived.Deep.CutBlock
import Derived.Test.YtnbhgeodbpelgaaCalL
namespace Go.Proofs.Ytnbhgeodbpelgaa
open Go.RowKit
set_option linter.unusedVariables false
attribute [local go_sem ↓] Go.wp_at_zero Go.wp_at_succ

theorem turnsC_few (s : Cst) : (turnsC s).acc = s.acc ∧ (turnsC s).don = s.don ∧ (turnsC s).acks ≤ s.acks := by unfold turnsC; split <;> simp
theorem sendS_few (R : Nat) (s : Cst) (m : List Nat) : (sendS R s m).acc ≤ s.acc + 1 ∧ (sendS R s m).don ≤ s.don + 1 ∧ (sendS R s m).acks ≤ s.acks + 1 := by
  unfold sendS
  split
  · split
    · obtain ⟨h1, h2, h3⟩ := turnsC_few { s with q := pushL R s.q m }
      exact ⟨Nat.le_refl _, by dsimp only at h2 ⊢; omega, by dsimp only at h3 ⊢; omega⟩
    · exact ⟨Nat.le_refl _, Nat.le_succ _, Nat.le_succ _⟩
  · exact ⟨Nat.le_succ _, Nat.le_succ _, Nat.le_succ _⟩
theorem tickS_few (s : Cst) : (tickS s).acc ≤ s.acc + 1 ∧ (tickS s).don ≤ s.don + 1 ∧ (tickS s).acks ≤ s.acks + 1 := by
  unfold tickS
  split <;> exact ⟨Nat.le_succ _, Nat.le_succ _, Nat.le_succ _⟩
theorem ackedS_few (s : Cst) : (ackedS s).acc ≤ s.acc + 1 ∧ (ackedS s).don ≤ s.don + 1 ∧ (ackedS s).acks ≤ s.acks + 1 := by
  unfold ackedS
  split
  · obtain ⟨h1, h2, h3⟩ := turnsC_few { s with acks := s.acks + 1, q := s.q.tail, don := s.don + 1 }
    exact ⟨by dsimp only at h1 ⊢; omega, by dsimp only at h2 ⊢; omega, by dsimp only at h3 ⊢; omega⟩
  · exact ⟨Nat.le_succ _, Nat.le_succ _, Nat.le_refl _⟩
theorem takeCS_few (s : Cst) (k lb : Int) : (takeCS s k lb).acc ≤ s.acc + 1 ∧ (takeCS s k lb).don ≤ s.don + 1 ∧ (takeCS s k lb).acks ≤ s.acks + 1 := by
  unfold takeCS
  split
  · exact ⟨Nat.le_succ _, Nat.le_succ _, Nat.le_succ _⟩
  · split
    · split
      · exact ackedS_few (heardS s)
      · exact ⟨Nat.le_succ _, Nat.le_succ _, Nat.le_succ _⟩
    · exact ⟨Nat.le_succ _, Nat.le_succ _, Nat.le_succ _⟩
theorem takeCT_len (s : Cst) (k : Int) : (takeCT s k).length ≤ 1 := by unfold takeCT; split <;> simp
theorem tickT_len (s : Cst) : (tickT s).length ≤ 1 := by
  unfold tickT
  split
  · simp
  · split <;> simp
set_option maxRecDepth 100000 in
theorem cdoes_bad (r : Int) (n : Nat) {w : World} {a : Option Addr} {c : Nat} {l : List Act20} (hr : r < 1 ∨ 16 < r) (hl : InA20 w a c l) :
    Calls Try.prog 3 #[.int .i64 r, .int .u64 (n : Nat), .slice a l.length c] w fun e w' => e = .returned (.bool true) ∧ Below w.heap.size w w' := by
  have HH := hide (huge20 hl)
  have HX := hide (fun W => cl_bad r hr n W)
  have HY := hide (fun W => rcl_bad r hr n W)
  have hll : l.length ≤ 9223372036854775807 := Nat.le_trans hl.cap hl.max
  clear hl hr
  go_enter Try.func3, Try.ntmps3
  go_wp2_with fail
  refine HH.out.mono ?_; rintro e w' ⟨b, rfl, rfl, _⟩
  cases b
  · go_wp2_with fail
    refine (HX.out _).mono ?_; rintro e w' ⟨rfl, rfl⟩
    go_wp2_with fail
    refine (HY.out _).mono ?_; rintro e w' ⟨rfl, rfl⟩
    go_wp2_with fail
    refine (num20 _ _).mono ?_; rintro e w' ⟨rfl, rfl⟩
    go_wp2
    go_loop [11] (fun i => i = .int .i64 0) (fun _ => 0)
    case atStart => rfl
    case round =>
      subst hrel
      by_cases h0 : 0 < l.length
      · go_wp2_with fail
        refine (live20 _).mono ?_; rintro e w' ⟨rfl, hb⟩
        go_wp2
        go_ret
        exact ⟨rfl, hb⟩
      · go_wp2_with fail
        refine (live20 _).mono ?_; rintro e w' ⟨rfl, hb⟩
        go_wp2
        go_ret
        exact ⟨rfl, hb⟩
  · go_wp2_with fail
    refine (live20 _).mono ?_; rintro e w' ⟨rfl, hb⟩
    go_wp2
    go_ret
    exact ⟨rfl, hb⟩
/-- what the loop keeps. -/
def KeepC (w0 wr : World) (B2 gx gy R : Nat) (k : Nat) : Prop := ∃ s F G, BothC w0 wr B2 gx gy R s F G ∧ s.acc ≤ k ∧ s.don ≤ k ∧ s.acks ≤ k
set_option maxRecDepth 100000 in
set_option maxHeartbeats 8000000 in
theorem cdoes_in (R : Nat) (hR : 1 ≤ R) (hR2 : R ≤ 16) (n : Nat) (hn : n < 18446744073709551616) {w : World} {a : Option Addr} {c : Nat} {l : List Act20} (hl : InA20 w a c l) :
    Calls Try.prog 3 #[.int .i64 (R : Nat), .int .u64 (n : Nat), .slice a l.length c] w fun e w' => e = .returned (.bool true) ∧ Below w.heap.size w w' := by
  have HH := hide (huge20 hl)
  have HX := hide (fun W => cl_new (R : Nat) (by omega) (by omega) n hn W)
  have HY := hide (fun W => rcl_new (R : Nat) (by omega) (by omega) n hn W)
  rw [Int.toNat_natCast] at HX HY
  have HL := hide hl
  have hll : l.length ≤ 9223372036854775807 := Nat.le_trans hl.cap hl.max
  clear hl hR hR2 hn
  go_enter Try.func3, Try.ntmps3
  go_wp2_with fail
  refine HH.out.mono ?_; rintro e w' ⟨b, rfl, rfl, hsm⟩
  have HSM := hide hsm
  clear hsm HH
  cases b
  case true =>
    go_wp2_with fail
    refine (live20 _).mono ?_; rintro e w' ⟨rfl, hb⟩
    go_wp2
    go_ret
    exact ⟨rfl, hb⟩
  case false =>
    have hl100 : l.length ≤ 100 := (HSM.out rfl).1
    clear HSM
    go_wp2_with fail
    refine (HX.out w).mono ?_; rintro e w1 ⟨gx, F1, rfl, hm1, hb1⟩
    have HM1 := hide hm1
    have HB1 := hide hb1
    clear hm1 hb1 HX
    go_wp2_with fail
    refine (HY.out w1).mono ?_; rintro e w2 ⟨gy, G1, rfl, hr2, hb2⟩
    have HBO : Hid (BothC w w2 w1.heap.size gx gy R (newC n) F1 G1) :=
      ⟨HM1.out.on hb2, hr2, Off.new HM1.out.foot hr2.foot (Nat.le_refl _), HB1.out.size, below2 HB1.out hb2 (Nat.le_refl _)⟩
    clear hr2 hb2 HY
    go_wp2_with fail
    refine (num20 _ _).mono ?_; rintro e w' ⟨rfl, rfl⟩
    go_wp2
    go_loopw [11] (fun i wr => ∃ k : Nat, k ≤ l.length ∧ i = .int .i64 k ∧ Hid (KeepC w wr w1.heap.size gx gy R k)) (fun i _ => l.length - (intOf i).toNat)
    case atStart => exact ⟨0, Nat.zero_le _, rfl, _, _, _, HBO.out, Nat.le_refl _, Nat.le_refl _, Nat.le_refl _⟩
    case round =>
      obtain ⟨k, hk, rfl, hrel⟩ := hrel
      obtain ⟨s, F, G, hbo, he, hr, hu⟩ := hrel.out
      have HB := hide hbo
      have HE := hide he
      have HR := hide hr
      have HU := hide hu
      clear hrel hbo he hr hu HBO
      by_cases hlt : k < l.length
      · obtain ⟨⟨d, i, m, p⟩, hpm⟩ : ∃ x, l[k]? = some x := ⟨_, List.getElem?_eq_getElem hlt⟩
        obtain ⟨b, o, v, u, rfl, hbl, hc, ⟨A2, c2, rfl, hrd2, _, hl2, _⟩, ⟨⟨A5, c5, rfl, _, _, hl5, _⟩, _, _⟩, _⟩ := HL.out.rd k _ hpm
        obtain ⟨pk, pl, pd⟩ := p
        dsimp only at hrd2 hl2 hl5
        have hc' : ∀ (j : Nat) z, (a20C (d, i, m, pk, pl, pd) (.slice A2 m.length c2) (.slice A5 pd.length c5))[j]? = some z → wr.cell? ⟨b, o + k * 6 + j, none⟩ = some z := fun j z hz => (HB.out.bel.cell (p := ⟨b, o + k * 6 + j, none⟩) hbl).trans (hc j z hz)
        have q0 := hc' 0 _ rfl
        have q1 := hc' 1 _ rfl
        have q2 := hc' 2 _ rfl
        have q3 := hc' 3 _ rfl
        have q4 := hc' 4 _ rfl
        have q5 := hc' 5 _ rfl
        dsimp only at q0 q1 q2 q3 q4 q5
        rw [Nat.add_zero] at q0
        obtain ⟨w2, hw2⟩ : ∃ w2, w2 = wr.alloc (.cells #[.int .i64 d, .int .i64 i, .slice A2 m.length c2, .int .i64 pk, .int .i64 pl, .slice A5 pd.length c5] 38) := ⟨_, rfl⟩
        have HX2 : Hid (Blk w2 wr.heap.size 38 [.int .i64 d, .int .i64 i, .slice A2 m.length c2, .int .i64 pk, .int .i64 pl, .slice A5 pd.length c5]) := by rw [hw2]; exact Blk.new wr _ _
        have HB2 : Hid (BothC w w2 w1.heap.size gx gy R s F G) := by rw [hw2]; exact HB.out.on ((Below.refl _ _).alloc (Nat.le_refl _) _)
        have hnF : ¬ F wr.heap.size := fun hf => by have := (HB.out.m.foot _ hf).2; omega
        have hnG : ¬ G wr.heap.size := fun hf => by have := (HB.out.r.foot _ hf).2; omega
        have HNF := hide hnF
        have HNG := hide hnG
        have HRD0 := hide hrd2
        have HRD2 : Hid (Rd w2.heap.size w2 A2 (u8s m)) := (hrd2.below HB2.out.bel (Nat.le_refl _)).more HB2.out.bel.size
        have HW2 := hide hw2
        have g0 : (0 : Int) ≤ (k : Int) := by omega
        have g3 : (k : Int) < (l.length : Int) := by omega
        clear hpm hc hc' hrd2 hnF hnG hw2 hbl
        go_upto_block 2 with (fail)
        rw [← HW2.out]
        have x0 := HX2.out.cell (i := 0) rfl
        clear q0 q1 q2 q3 q4 q5 HW2
        go_cut [] from 63 to 132 (fun wr => Hid (KeepC w wr w1.heap.size gx gy R (k + 1)))
        case first =>
          by_cases d0 : d = 0
          · subst d0
            have HT1 : Hid (Calls Try.prog 17 #[.pointer (some ⟨gx, 0, none⟩), .slice A2 m.length c2] w2 (SendR w2 w.heap.size gx R s F m)) := by
              obtain ⟨gq, gl, Fs, h⟩ := HB2.out.m
              exact cl_send h (by have := HE.out; omega) A2 c2 m HRD2.out
            have HT2 : Hid (∀ w3 F3 (hu3 : Turn F F3 w2 w3), Calls Try.prog 18 #[.pointer (some ⟨gy, 0, none⟩), .slice A2 m.length c2] w3 (RSendR w3 w1.heap.size gy R s G m)) := fun w3 F3 hu3 => by
              obtain ⟨gq, gl, Fs, h⟩ := HB2.out.mid hu3
              exact rcl_send h (by have := HE.out; omega) A2 c2 m ((HRD0.out.below (HB2.out.bel1 hu3) (Nat.le_refl _)).more (HB2.out.bel1 hu3).size)
            unfold SendR at HT1
            unfold RSendR at HT2
            obtain ⟨v, hv⟩ : ∃ v, v = sendV R s m := ⟨_, rfl⟩
            obtain ⟨e, he⟩ : ∃ e, e = pushE R s.q m := ⟨_, rfl⟩
            simp only [← hv, ← he] at HT1 HT2
            have x2 := HX2.out.cell (i := 2) rfl
            have n1 : ((v : Int) != (v : Int)) = false := by simp
            have n2 : ((e : Int) != (e : Int)) = false := by simp
            clear hv he
            go_wp2_with fail
            refine HT1.out.mono ?_; rintro e w3 ⟨F3, rfl, hm3, hu3⟩
            have HT3 := hide (HT2.out w3 F3 hu3)
            have x2' := (HX2.out.kept (hu3.block _ HX2.out.lt HNF.out)).cell (i := 2) rfl
            have HM3 := hide hm3
            have HU3 := hide hu3
            clear hm3 hu3 HT1 HT2 x2 x0
            go_wp2_with fail
            refine HT3.out.mono ?_; rintro e w4 ⟨G4, rfl, hr4, hu4⟩
            have HZ := hide (HB2.out.step HU3.out HM3.out hu4 hr4)
            clear hr4 hu4 HT3 x2'
            go_wp2_with fail
            refine (num20 _ _).mono ?_; rintro e w' ⟨rfl, rfl⟩
            go_wp2
            go_meet
            case rel =>
              have hf := sendS_few R s m
              have := HE.out; have := HR.out; have := HU.out
              exact ⟨_, _, _, HZ.out, by omega, by omega, by omega⟩
          · have e0 : (d == 0) = false := by simp; exact d0
            by_cases d1 : d = 1
            · subst d1
              have HT1 : Hid (Calls Try.prog 20 #[.pointer (some ⟨gx, 0, none⟩)] w2 (TellR w2 w.heap.size gx R (tickS s) F (tickT s))) := by
                obtain ⟨gq, gl, Fs, h⟩ := HB2.out.m
                exact cl_tick h
              have HT2 : Hid (∀ w3 F3 (hu3 : Turn F F3 w2 w3), Calls Try.prog 21 #[.pointer (some ⟨gy, 0, none⟩)] w3 (RTellR w3 w1.heap.size gy R (tickS s) G (tickT s))) := fun w3 F3 hu3 => by
                obtain ⟨gq, gl, Fs, h⟩ := HB2.out.mid hu3
                exact rcl_tick h
              unfold TellR at HT1
              unfold RTellR at HT2
              obtain ⟨ts, hts⟩ : ∃ ts, ts = tickT s := ⟨_, rfl⟩
              have htl : ts.length ≤ 1 := by rw [hts]; exact tickT_len s
              simp only [← hts] at HT1 HT2
              clear hts d0
              go_wp2_with fail
              refine HT1.out.mono ?_; rintro e w3 ⟨A3, c3, F3, rfl, hp3, hm3, hu3⟩
              have HT3 := hide (HT2.out w3 F3 hu3)
              have HM3 := hide hm3
              have HU3 := hide hu3
              have HP3 := hide hp3
              clear hm3 hu3 hp3 HT1 HT2 x0
              go_wp2_with fail
              refine HT3.out.mono ?_; rintro e w4 ⟨A4, c4, G4, rfl, hp4, hr4, hu4⟩
              have HZ := hide (HB2.out.step HU3.out HM3.out hu4 hr4)
              have HQ := hide (prbs_same (c := c3) (d := c4) (HB2.out.prbs HP3.out hu4) hp4 (by omega))
              clear hr4 hu4 hp4 HT3
              go_wp2_with fail
              refine HQ.out.mono ?_; rintro e w5 ⟨rfl, hb5⟩
              have HZ2 := hide (HZ.out.on hb5)
              clear hb5
              go_wp2
              go_meet
              case rel =>
                have hf := tickS_few s
                have := HE.out; have := HR.out; have := HU.out
                exact ⟨_, _, _, HZ2.out, by omega, by omega, by omega⟩
            · have e1 : (d == 1) = false := by simp; exact d1
              by_cases d2 : d = 2
              · subst d2
                have HBD := hide (HB2.out.on (Below.refl _ _).drew)
                have HT1 : Hid (Calls Try.prog 22 #[.pointer (some ⟨gx, 0, none⟩), .agg #[.int .i64 pk, .int .i64 pl, .slice A5 pd.length c5]] w2.drew (TellR w2.drew w.heap.size gx R (takeCS s pk pl) F (takeCT s pk))) := by
                  obtain ⟨gq, gl, Fs, h⟩ := HBD.out.m
                  exact cl_take h (by have := HR.out; omega) (by have := HU.out; omega) pk pl A5 _ c5
                have HT2 : Hid (∀ w3 F3 (hu3 : Turn F F3 w2.drew w3), Calls Try.prog 23 #[.pointer (some ⟨gy, 0, none⟩), .agg #[.int .i64 pk, .int .i64 pl, .slice A5 pd.length c5]] w3 (RTellR w3 w1.heap.size gy R (takeCS s pk pl) G (takeCT s pk))) := fun w3 F3 hu3 => by
                  obtain ⟨gq, gl, Fs, h⟩ := HBD.out.mid hu3
                  exact rcl_take h (by have := HR.out; omega) (by have := HU.out; omega) pk pl A5 _ c5
                unfold TellR at HT1
                unfold RTellR at HT2
                obtain ⟨ts, hts⟩ : ∃ ts, ts = takeCT s pk := ⟨_, rfl⟩
                have HTL : Hid (ts.length ≤ 9223372036854775807) := by have := takeCT_len s pk; exact hide (by rw [hts]; omega)
                simp only [← hts] at HT1 HT2
                have x3 := HX2.out.cell (i := 3) rfl
                have x4 := HX2.out.cell (i := 4) rfl
                have x5 := HX2.out.cell (i := 5) rfl
                have HXK := hide (fun (W : World) (hk : W.heap[wr.heap.size]? = w2.heap[wr.heap.size]?) => (show W.cell? ⟨wr.heap.size, 3, none⟩ = some (.int .i64 pk) ∧ W.cell? ⟨wr.heap.size, 4, none⟩ = some (.int .i64 pl) ∧ W.cell? ⟨wr.heap.size, 5, none⟩ = some (.slice A5 pd.length c5) from ⟨(HX2.out.kept hk).cell (i := 3) rfl, (HX2.out.kept hk).cell (i := 4) rfl, (HX2.out.kept hk).cell (i := 5) rfl⟩))
                have HLT := hide HX2.out.lt
                have HPB := hide (fun (w3 : World) (A : Option Addr) (F3 : Nat → Prop) (hp3 : Prbs (fun k => w2.drew.heap.size ≤ k ∧ ¬ F3 k) w3 A ts) w4 G4 (hu4 : Turn G G4 w3 w4) => HBD.out.prbs hp3 hu4)
                have HK0 : Hid (w2.drew.heap[wr.heap.size]? = w2.heap[wr.heap.size]?) := hide rfl
                have HK1 : Hid (∀ w3 F3 (hu3 : Turn F F3 w2.drew w3), w3.heap[wr.heap.size]? = w2.heap[wr.heap.size]?) := hide (fun w3 F3 hu3 => hu3.block _ HLT.out HNF.out)
                have HK2 : Hid (∀ w3 F3 (hu3 : Turn F F3 w2.drew w3) w4 G4 (hu4 : Turn G G4 w3 w4), w4.heap[wr.heap.size]? = w2.heap[wr.heap.size]?) := hide (fun w3 F3 hu3 w4 G4 hu4 => (hu4.block _ (Nat.lt_of_lt_of_le HLT.out hu3.size) HNG.out).trans (HK1.out w3 F3 hu3))
                clear hts d0 d1 e0 e1
                go_wp2
                go_region_held3 (fun W => W.cell? ⟨wr.heap.size, 3, none⟩ = some (.int .i64 pk) ∧ W.cell? ⟨wr.heap.size, 4, none⟩ = some (.int .i64 pl) ∧ W.cell? ⟨wr.heap.size, 5, none⟩ = some (.slice A5 pd.length c5)) (first
                    | exact HXK.out _ ((hb5.block _ (Nat.lt_of_lt_of_le HLT.out (Nat.le_trans hu3.size hu4.size))).trans (HK2.out _ _ hu3 _ _ hu4))
                    | exact HXK.out _ (HK2.out _ _ hu3 _ _ hu4)
                    | exact HXK.out _ (HK1.out _ _ hu3)
                    | exact HXK.out _ HK0.out)
                  ((first
                    | (go_at_call 22; (with_reducible refine HT1.out.mono ?_); rintro e w3 ⟨A3, c3, F3, rfl, hp3, hm3, hu3⟩)
                    | (go_at_call 23; (with_reducible refine (HT2.out _ _ hu3).mono ?_); rintro e w4 ⟨A4, c4, G4, rfl, hp4, hr4, hu4⟩)
                    | (go_at_call 19; (with_reducible refine (prbs_same (HPB.out _ _ _ hp3 _ _ hu4) hp4 HTL.out).mono ?_); rintro e w5 ⟨rfl, hb5⟩)))
                have HZ := hide ((HBD.out.step hu3 hm3 hu4 hr4).on hb5)
                clear hp3 hm3 hu3 hp4 hr4 hu4 hb5
                go_wp2
                go_meet
                case rel =>
                  have hf := takeCS_few s pk pl
                  have := HE.out; have := HR.out; have := HU.out
                  exact ⟨_, _, _, HZ.out, by omega, by omega, by omega⟩
              · have e2 : (d == 2) = false := by simp; exact d2
                by_cases d3 : d = 3
                · subst d3
                  have HT1 : Hid (Calls Try.prog 24 #[.pointer (some ⟨gx, 0, none⟩), .int .i64 i] w2 fun e w' => e = .returned (.tuple #[.int .i64 (pollV s i : Nat), .int .i64 (pollE s i : Nat)]) ∧ w2 = w') := by
                    obtain ⟨gq, gl, Fs, h⟩ := HB2.out.m
                    exact cl_poll h i
                  have HT2 : Hid (Calls Try.prog 25 #[.pointer (some ⟨gy, 0, none⟩), .int .i64 i] w2 fun e w' => e = .returned (.tuple #[.int .i64 (pollV s i : Nat), .int .i64 (pollE s i : Nat)]) ∧ w2 = w') := by
                    obtain ⟨gq, gl, Fs, h⟩ := HB2.out.r
                    exact rcl_poll h i
                  obtain ⟨v, hv⟩ : ∃ v, v = pollV s i := ⟨_, rfl⟩
                  obtain ⟨e, he⟩ : ∃ e, e = pollE s i := ⟨_, rfl⟩
                  simp only [← hv, ← he] at HT1 HT2
                  have x1 := HX2.out.cell (i := 1) rfl
                  have n1 : ((v : Int) != (v : Int)) = false := by simp
                  have n2 : ((e : Int) != (e : Int)) = false := by simp
                  clear hv he d0 d1 d2
                  go_wp2_with fail
                  refine HT1.out.mono ?_; rintro e w' ⟨rfl, rfl⟩
                  go_wp2_with fail
                  refine HT2.out.mono ?_; rintro e w' ⟨rfl, rfl⟩
                  go_wp2_with fail
                  refine (num20 _ _).mono ?_; rintro e w' ⟨rfl, rfl⟩
                  go_wp2
                  go_meet
                  case rel =>
                    have := HE.out; have := HR.out; have := HU.out
                    exact ⟨_, _, _, HB2.out, by omega, by omega, by omega⟩
                · have e3 : (d == 3) = false := by simp; exact d3
                  clear d0 d1 d2 d3
                  go_wp2
                  go_meet
                  case rel =>
                    have := HE.out; have := HR.out; have := HU.out
                    exact ⟨_, _, _, HB2.out, by omega, by omega, by omega⟩
        case rest =>
          obtain ⟨s2, F5, G5, hbo, he, hr, hu⟩ := hcut.out
          have HB5 := hide hbo
          have HE5 := hide he
          have HR5 := hide hr
          have HU5 := hide hu
          have HAL := hide (alike20 hbo)
          clear hcut hbo he hr hu HB HE HR HU HX2 HB2 HRD2 HRD0
          go_wp2_with fail
          refine HAL.out.mono ?_; rintro e w6 ⟨rfl, hb6⟩
          have HZ := hide (HB5.out.on hb6)
          clear hb6
          go_wp2
          go_roundw
          case rel => exact ⟨k + 1, by omega, by go_num, s2, F5, G5, HZ.out, HE5.out, HR5.out, HU5.out⟩
          case measure => simp [intOf]; omega
      · obtain rfl : k = l.length := by omega
        go_wp2_with fail
        refine (live20 _).mono ?_; rintro e w' ⟨rfl, hb⟩
        go_wp2
        go_ret
        exact ⟨rfl, below2 HB.out.bel hb (Nat.le_refl _)⟩
theorem walk_CallerDoes (w : World) (r : Int) (hr : Fit r) (n : Nat) (hn : n < 18446744073709551616) (a : Option Addr) (c : Nat) (l : List Act20) (hl : InA20 w a c l) :
    Calls Try.prog 3 #[.int .i64 r, .int .u64 (n : Nat), .slice a l.length c] w fun e w' => e = .returned (.bool true) ∧ Below w.heap.size w w' := by
  by_cases h : r < 1 ∨ 16 < r
  · exact cdoes_bad r n h hl
  · obtain ⟨R, rfl⟩ := Int.eq_ofNat_of_zero_le (show 0 ≤ r by omega)
    exact cdoes_in R (by omega) (by omega) n hn hl
end Go.Proofs.Ytnbhgeodbpelgaa
