/- Layer 40: the law MuxTurns, walked. No conditions. -/
import Derived.Test.YtfcappddncnglaaMuxI
namespace Go.Proofs.Ytfcappddncnglaa
open Go.RowKit
set_option linter.unusedVariables false

set_option maxRecDepth 100000 in
set_option maxHeartbeats 1000000 in
theorem turns_live (w : World) (P : Int) (hP : P < 0 ∨ (0 ≤ P ∧ 7 < P)) (a : Option Addr) (c : Nat) (l : List (Int × Int × List Nat)) (hl : InA40 w a c l) :
    Calls Try.prog 6 #[.slice a l.length c, .int .i64 P] w fun e w' => e = .returned (.bool true) ∧ Below w.heap.size w w' := by
  have HN := hide (mux_new 16 (by omega) (by omega) w)
  have HL := hide hl
  clear hl
  rcases hP with h | ⟨h0, h7⟩
  · go_enter Try.func6, Try.ntmps6
    go_wp2_with fail
    refine HN.out.mono ?_; rintro e w1 ⟨gx, F, rfl, hm, hb⟩
    have HB := hide hb
    have HH := hide (huge40 (HL.out.on hb))
    clear hm hb HN
    go_wp2_with fail
    refine HH.out.mono ?_; rintro e w' ⟨bb, rfl, rfl, _⟩
    cases bb
    · go_wp2_with fail
      refine (num40 _ _).mono ?_; rintro e w' ⟨rfl, rfl⟩
      go_wp2_with fail
      refine (num40 _ _).mono ?_; rintro e w' ⟨rfl, rfl⟩
      go_wp2_with fail
      refine (live40 _).mono ?_; rintro e w9 ⟨rfl, hb9⟩
      go_wp2
      go_ret
      exact ⟨rfl, below2 HB.out hb9 (Nat.le_refl _)⟩
    · go_wp2_with fail
      refine (num40 _ _).mono ?_; rintro e w' ⟨rfl, rfl⟩
      go_wp2_with fail
      refine (live40 _).mono ?_; rintro e w9 ⟨rfl, hb9⟩
      go_wp2
      go_ret
      exact ⟨rfl, below2 HB.out hb9 (Nat.le_refl _)⟩
  · have h00 : ¬ P < 0 := by omega
    clear h0
    go_enter Try.func6, Try.ntmps6
    go_wp2_with fail
    refine HN.out.mono ?_; rintro e w1 ⟨gx, F, rfl, hm, hb⟩
    have HB := hide hb
    have HH := hide (huge40 (HL.out.on hb))
    clear hm hb HN
    go_wp2_with fail
    refine HH.out.mono ?_; rintro e w' ⟨bb, rfl, rfl, _⟩
    cases bb
    · go_wp2_with fail
      refine (num40 _ _).mono ?_; rintro e w' ⟨rfl, rfl⟩
      go_wp2_with fail
      refine (num40 _ _).mono ?_; rintro e w' ⟨rfl, rfl⟩
      go_wp2_with fail
      refine (live40 _).mono ?_; rintro e w9 ⟨rfl, hb9⟩
      go_wp2
      go_ret
      exact ⟨rfl, below2 HB.out hb9 (Nat.le_refl _)⟩
    · go_wp2_with fail
      refine (num40 _ _).mono ?_; rintro e w' ⟨rfl, rfl⟩
      go_wp2_with fail
      refine (live40 _).mono ?_; rintro e w9 ⟨rfl, hb9⟩
      go_wp2
      go_ret
      exact ⟨rfl, below2 HB.out hb9 (Nat.le_refl _)⟩
set_option maxRecDepth 100000 in
set_option maxHeartbeats 4000000 in
theorem turns_in (w : World) (P : Nat) (hP : P < 8) (a : Option Addr) (c : Nat) (l : List (Int × Int × List Nat)) (hl : InA40 w a c l) :
    Calls Try.prog 6 #[.slice a l.length c, .int .i64 (P : Nat)] w fun e w' => e = .returned (.bool true) ∧ Below w.heap.size w w' := by
  obtain ⟨i0, hi, hz0, hz1, hz2⟩ := info_parts Try.infI
  have hbb1 : i0.bytes * 8 ≤ 281474976710656 := by rw [hz2]; omega
  have hbb2 : 8 ≤ maxLen := by unfold maxLen; omega
  have HN := hide (mux_new 16 (by omega) (by omega) w)
  have HL := hide hl
  have HP := hide hP
  have hll : l.length ≤ 9223372036854775807 := Nat.le_trans hl.cap hl.max
  have hP7 : ¬ (7 : Int) < (P : Int) := by omega
  clear hl
  go_enter Try.func6, Try.ntmps6
  go_wp2_with fail
  refine HN.out.mono ?_; rintro e w1 ⟨gx, F1, rfl, hm, hb⟩
  have HB := hide hb
  have HM1 := hide hm
  have HH := hide (huge40 (HL.out.on hb))
  clear hm hb HN
  go_wp2_with fail
  refine HH.out.mono ?_; rintro e w' ⟨bb, rfl, rfl, hsm⟩
  have HSM := hide hsm
  clear hsm HH
  cases bb
  case true =>
    go_wp2_with fail
    refine (num40 _ _).mono ?_; rintro e w' ⟨rfl, rfl⟩
    go_wp2_with fail
    refine (live40 _).mono ?_; rintro e w9 ⟨rfl, hb9⟩
    go_wp2
    go_ret
    exact ⟨rfl, below2 HB.out hb9 (Nat.le_refl _)⟩
  case false =>
    go_wp2_with fail
    refine (num40 _ _).mono ?_; rintro e w' ⟨rfl, rfl⟩
    go_wp2_with (at_make; refine wpList_make_full _ rfl _ _ _ rfl w.heap.size 3 i0 (.int .i64 0) 1 Try.underlying57 hi hz0 hz1 .i64 .i64 _ _ 8 rfl rfl (by omega) (by omega) hbb1 hbb2 HB.out.size ?_; intro w3 hown hgrow)
    have HT0 : Hid (∃ Q next F s, Turns w w3 gx P (.slice (some ⟨w1.heap.size, 0, none⟩) 8 8) Q next F s) := by
      have hbm : Below w1.heap.size w1 w3 := (Below.refl _ _).grown hgrow (Nat.le_refl _) (by intro k h; cases h)
      rw [made_n64] at hown
      exact ⟨emptyQ, 0, F1, _, ⟨HM1.out.on hbm, by intro i _ m hm; simp [emptyQ] at hm, hown, fun k hk hf => by have hk2 : some w1.heap.size = some k := hk; injection hk2 with hk2; have := (HM1.out.foot k hf).2; omega, seen_zero _ _, below2 HB.out hbm (Nat.le_refl _)⟩⟩
    clear hown hgrow
    go_loopw [7, 8] (fun V i wr => ∃ k : Nat, k ≤ l.length ∧ i = .int .i64 k ∧ Hid (∃ Q next F s, Turns w wr gx P V Q next F s)) (fun _ i _ => l.length - (intOf i).toNat)
    case atStart => exact ⟨0, Nat.zero_le _, rfl, HT0⟩
    case round =>
      obtain ⟨k, hk, rfl, hrel⟩ := hrel
      obtain ⟨Q, next, F, s, ht⟩ := hrel.out
      clear hrel
      by_cases hlt : k < l.length
      · obtain ⟨⟨d, pt, m⟩, hpm⟩ : ∃ x, l[k]? = some x := ⟨_, List.getElem?_eq_getElem hlt⟩
        obtain ⟨b, o, u, rfl, hbl, h0, h1, h2, hfb, _⟩ := HL.out.rd k d pt m hpm
        have c0 := (ht.bel.cell (p := ⟨b, o + k * 3, none⟩) hbl).trans h0
        obtain ⟨A, cA, rfl, hA, _⟩ := hfb
        obtain ⟨A0, cV, rfl, _⟩ := own_val ht.row
        obtain ⟨gV, rfl, hgV1, hgV2⟩ := own_where ht.row (by omega)
        have HT := hide ht
        have HA := hide hA
        have HBL := hide hbl
        have H0 := hide h0
        have H1 := hide h1
        have H2 := hide h2
        have g0 : (0 : Int) ≤ (k : Int) := by omega
        have g3 : (k : Int) < (l.length : Int) := by omega
        clear ht hA hbl h0 h1 h2 hpm hgV1 hgV2
        by_cases hd0 : d = 0
        · subst hd0
          have HBD := hide (show Below w.heap.size w wr.drew from HT.out.bel.drew)
          have c1 : wr.cell? ⟨b, o + k * 3 + 1, none⟩ = some (.int .i64 pt) := (HT.out.bel.cell (p := ⟨b, o + k * 3 + 1, none⟩) HBL.out).trans H1.out
          have c2 : wr.cell? ⟨b, o + k * 3 + 2, none⟩ = some (.slice A m.length cA) := (HT.out.bel.cell (p := ⟨b, o + k * 3 + 2, none⟩) HBL.out).trans H2.out
          have HMD : Hid (Mx wr.drew w.heap.size gx 16 Q next F) := HT.out.m.on (Below.refl _ _).drew
          have HFT := hide HMD.out.foot
          have HPU := hide (mux_push HMD.out pt A cA m ((HA.out.below HBD.out (Nat.le_refl _)).more HBD.out.size))
          clear c0
          have c0 : wr.cell? ⟨b, o + k * 3, none⟩ = some (.int .i64 0) := (HT.out.bel.cell (p := ⟨b, o + k * 3, none⟩) HBL.out).trans H0.out
          go_wp2
          go_region_held3 (fun w' => w'.cell? ⟨b, o + k * 3 + 1, none⟩ = some (.int .i64 pt) ∧ w'.cell? ⟨b, o + k * 3 + 2, none⟩ = some (.slice A m.length cA)) (first
              | exact ⟨((ht4.below HBD.out HFT.out HBD.out.size).cell (p := ⟨b, o + k * 3 + 1, none⟩) HBL.out).trans H1.out, ((ht4.below HBD.out HFT.out HBD.out.size).cell (p := ⟨b, o + k * 3 + 2, none⟩) HBL.out).trans H2.out⟩
              | go_keep)
            ((first
              | (go_at_call 35; (with_reducible refine HPU.out.mono ?_); rintro e w4 ⟨F', rfl, hm4, ht4⟩)))
          have d0 : w4.cell? ⟨b, o + k * 3, none⟩ = some (.int .i64 0) := ((ht4.below HBD.out HFT.out HBD.out.size).cell (p := ⟨b, o + k * 3, none⟩) HBL.out).trans H0.out
          have HT4 : Hid (Turns w w4 gx P (.slice (some ⟨gV, 0, none⟩) 8 cV) (mpushL 16 Q pt m) next F' s) := HT.out.turn (show Turn F F' wr w4 from ⟨ht4.os, ht4.tape, ht4.output, ht4.size, ht4.block, ht4.new⟩) hm4 (small_push HT.out.small pt m) HT.out.seen
          clear hm4 ht4 c1 c2 c0
          go_wp2
          go_roundw
          case rel => exact ⟨k + 1, by omega, by go_num, _, _, _, _, HT4.out⟩
          case measure => simp [intOf]; omega
        · by_cases hd1 : d = 1
          · subst hd1
            clear hd0
            have HLN := hide (mux_lenN HT.out.m HP.out)
            go_wp2_with fail
            refine HLN.out.mono ?_; rintro e w' ⟨rfl, rfl⟩
            clear HLN
            cases hno : nextOf Q next with
            | none =>
              have HN0 := hide (mux_next0 HT.out.m HT.out.small hno)
              clear hno
              go_wp2_with fail
              refine HN0.out.mono ?_; rintro e w2 ⟨A2, c2, rfl, hm2, ht2⟩
              have HT2 := hide (HT.out.turn ht2 hm2 HT.out.small HT.out.seen)
              clear hm2 ht2
              go_wp2
              go_roundw
              case rel => exact ⟨k + 1, by omega, by go_num, _, _, _, _, HT2.out⟩
              case measure => simp [intOf]; omega
            | some p =>
              have hp8 := (next_some hno).1
              have HN1 := hide (mux_next1 HT.out.m HT.out.small hno)
              have HNO := hide hno
              obtain ⟨v, hv, hv1, _⟩ := HT.out.seen.2 p hp8
              have HV := hide hv
              have hpI : (p : Int) < 8 := by omega
              have hp0 : (0 : Int) ≤ (p : Int) := by omega
              have hp7 : ¬ (7 : Int) < (p : Int) := by omega
              clear hno hv hp8
              go_wp2_with fail
              refine HN1.out.mono ?_; rintro e w2 ⟨g1, cc, n, rfl, hcell, hg1, hg2, hn64, hm2, ht2⟩
              have HTO := hide (HT.out.told ht2 hm2 p (v + 1))
              have hne : g1 ≠ gV := fun e => by have := HTO.out.2.2.2.2.2; omega
              have cp2 := own_cell HTO.out.2.2.2.1 (n64s_get HV.out)
              have fp2 : w2.frozen? ⟨gV, p, none⟩ = false := HTO.out.2.2.2.1.frozenAt p
              have hvc : ((v + 1 : Nat) : Int) = (v : Int) + 1 := by omega
              rw [hvc] at HTO
              have c13 : (w2.setCell ⟨gV, p, none⟩ (.int .i64 ((v : Int) + 1))).cell? ⟨g1, 0, none⟩ = some (.int .u8 (p : Nat)) := by rw [World.cell?_setCell_far _ _ _ _ (fun e => hne e.symm)]; exact hcell
              have cp3 : (w2.setCell ⟨gV, p, none⟩ (.int .i64 ((v : Int) + 1))).cell? ⟨gV, p, none⟩ = some (.int .i64 ((v : Int) + 1)) := by
                have := own_cell HTO.out.2.1 (n64s_get (l := s.set p (v + 1)) (k := p) (x := v + 1) (List.getElem?_set_self (by have := (List.getElem?_eq_some_iff.1 HV.out).1; exact this)))
                rw [hvc] at this; exact this
              have hnz : (((n : Int) + 1) == 0) = false := beq_eq_false_iff_ne.2 (by omega)
              have hnp : (0 : Int) < (n : Int) + 1 := by omega
              have HMS := hide (small_tell HT.out.small next)
              clear hm2 ht2 hg1 hg2 hne hvc
              by_cases hw : 0 < (Q P).length
              · by_cases hpP : p = P
                · subst hpP
                  have hqq : ((p : Int) == (p : Int)) = true := by simp
                  have HRES := hide (show Mx (w2.setCell ⟨gV, p, none⟩ (.int .i64 ((v : Int) + 1))) w.heap.size gx 16 (tellQ Q next) ((p + 1) % 8) F ∧ Below w.heap.size w (w2.setCell ⟨gV, p, none⟩ (.int .i64 ((v : Int) + 1))) from ⟨HTO.out.1, HTO.out.2.2.1⟩)
                  have hgw := HTO.out.2.2.1.size
                  have HGS : Hid ((w2.setCell ⟨gV, p, none⟩ (.int .i64 ((v : Int) + 1))).heap.size = w2.heap.size) := by show _ = _; simp [World.setCell]
                  go_wp2_with (at_make; refine wpList_make_full _ rfl _ _ _ rfl w.heap.size 3 i0 (.int .i64 0) 1 Try.underlying57 hi hz0 hz1 .i64 .i64 _ _ 8 rfl rfl (by omega) (by omega) hbb1 hbb2 hgw ?_; intro w5 hown hgrow)
                  have HT5 : Hid (Turns w w5 gx p (.slice (some ⟨w2.heap.size, 0, none⟩) 8 8) (tellQ Q next) ((p + 1) % 8) F (List.replicate 8 0)) := by
                    have hbm : Below (w2.setCell ⟨gV, p, none⟩ (.int .i64 ((v : Int) + 1))).heap.size (w2.setCell ⟨gV, p, none⟩ (.int .i64 ((v : Int) + 1))) w5 := (Below.refl _ _).grown hgrow (Nat.le_refl _) (by intro k h; cases h)
                    rw [made_n64, HGS.out] at hown
                    exact Turns.fresh HRES.out.1 HMS.out HRES.out.2 hown (fun k hk => by have hk2 : some w2.heap.size = some k := hk; injection hk2 with hk2; have := HGS.out; omega) hbm
                  clear hown hgrow hgw
                  go_roundw
                  case rel => exact ⟨k + 1, by omega, by go_num, _, _, _, _, HT5.out⟩
                  case measure => simp [intOf]; omega
                · have hqq : ((p : Int) == (P : Int)) = false := beq_eq_false_iff_ne.2 (by omega)
                  have hst := seen_step HT.out.seen HP.out (by obtain ⟨_, _, hmx⟩ := HT.out.m; exact hmx.lt) HNO.out (by intro e; rw [e] at hw; simp at hw) hpP
                  have hv0 : v = 0 := Option.some.inj (HV.out.symm.trans hst.1)
                  have hss : Seen (s.set p (v + 1)) ((p + 1) % 8) P := by rw [hv0]; exact hst.2
                  have hv1 : ¬ (1 : Int) < (v : Int) + 1 := by omega
                  have HT6 : Hid (Turns w (w2.setCell ⟨gV, p, none⟩ (.int .i64 ((v : Int) + 1))) gx P (.slice (some ⟨gV, 0, none⟩) 8 cV) (tellQ Q next) ((p + 1) % 8) F (s.set p (v + 1))) :=
                    ⟨HTO.out.1, HMS.out, HTO.out.2.1, fun k hk => by have hk2 : some gV = some k := hk; injection hk2 with hk2; exact hk2 ▸ HTO.out.2.2.2.2.1, hss, HTO.out.2.2.1⟩
                  clear hss hv0
                  clear hst hpP
                  go_wp2
                  go_roundw
                  case rel => exact ⟨k + 1, by omega, by go_num, _, _, _, _, HT6.out⟩
                  case measure => simp [intOf]; omega
              · clear cp3
                have HRES := hide (show Mx (w2.setCell ⟨gV, p, none⟩ (.int .i64 ((v : Int) + 1))) w.heap.size gx 16 (tellQ Q next) ((p + 1) % 8) F ∧ Below w.heap.size w (w2.setCell ⟨gV, p, none⟩ (.int .i64 ((v : Int) + 1))) from ⟨HTO.out.1, HTO.out.2.2.1⟩)
                have hgw := HTO.out.2.2.1.size
                have HGS : Hid ((w2.setCell ⟨gV, p, none⟩ (.int .i64 ((v : Int) + 1))).heap.size = w2.heap.size) := by show _ = _; simp [World.setCell]
                go_wp2_with (at_make; refine wpList_make_full _ rfl _ _ _ rfl w.heap.size 3 i0 (.int .i64 0) 1 Try.underlying57 hi hz0 hz1 .i64 .i64 _ _ 8 rfl rfl (by omega) (by omega) hbb1 hbb2 hgw ?_; intro w5 hown hgrow)
                have HT5 : Hid (Turns w w5 gx P (.slice (some ⟨w2.heap.size, 0, none⟩) 8 8) (tellQ Q next) ((p + 1) % 8) F (List.replicate 8 0)) := by
                  have hbm : Below (w2.setCell ⟨gV, p, none⟩ (.int .i64 ((v : Int) + 1))).heap.size (w2.setCell ⟨gV, p, none⟩ (.int .i64 ((v : Int) + 1))) w5 := (Below.refl _ _).grown hgrow (Nat.le_refl _) (by intro k h; cases h)
                  rw [made_n64, HGS.out] at hown
                  exact Turns.fresh HRES.out.1 HMS.out HRES.out.2 hown (fun k hk => by have hk2 : some w2.heap.size = some k := hk; injection hk2 with hk2; have := HGS.out; omega) hbm
                clear hown hgrow hgw
                go_roundw
                case rel => exact ⟨k + 1, by omega, by go_num, _, _, _, _, HT5.out⟩
                case measure => simp [intOf]; omega
          · have e0 : (d == 0) = false := by simp; exact hd0
            have e1 : (d != 1) = true := by simp; exact hd1
            clear hd0 hd1
            go_wp2
            go_roundw
            case rel => exact ⟨k + 1, by omega, by go_num, _, _, _, _, HT.out⟩
            case measure => simp [intOf]; omega
      · obtain rfl : k = l.length := by omega
        have HT := hide ht
        clear ht
        go_wp2_with fail
        refine (live40 _).mono ?_; rintro e w9 ⟨rfl, hb9⟩
        go_wp2
        go_ret
        exact ⟨rfl, below2 HT.out.bel hb9 (Nat.le_refl _)⟩
theorem walk_MuxTurns (w : World) (a : Option Addr) (c : Nat) (l : List (Int × Int × List Nat)) (hl : InA40 w a c l) (P : Int) (hP : Fit P) :
    Calls Try.prog 6 #[.slice a l.length c, .int .i64 P] w fun e w' => e = .returned (.bool true) ∧ Below w.heap.size w w' := by
  by_cases h : P < 0 ∨ (0 ≤ P ∧ 7 < P)
  · exact turns_live w P h a c l hl
  · obtain ⟨P, rfl⟩ := Int.eq_ofNat_of_zero_le (show 0 ≤ P by omega)
    exact turns_in w P (by omega) a c l hl
end Go.Proofs.Ytfcappddncnglaa
