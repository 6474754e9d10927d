/- Layer 40: the law MuxOver, walked. No conditions. -/
import Derived.Test.YtfcappddncnglaaMuxO
import Derived.Deep.OwnRows
import Derived.Deep.RegionLaw
import Derived.Deep.CutRange
import Derived.Deep.DrawnRows
namespace Go.Proofs.Ytfcappddncnglaa
open Go.RowKit
set_option linter.unusedVariables false
attribute [local go_sem ↓] Go.wp_at_zero Go.wp_at_succ

theorem Try.infT : (Try.prog.info? 43).map (fun i => (i.zero, i.size, i.bytes)) = some (some (.slice none 0 0), 1, 24) := by kernel_rfl
def noV : Nat → Value := fun _ => .slice none 0 0
theorem eight_made : Go.madeCells #[.slice none 0 0] 8 = (eight noV).toArray := by kernel_rfl
theorem shelf_new {w : World} {B g : Nat} (hB : B ≤ g) (hb : Blk w g 43 (eight noV)) : Shelf w B g emptyQ noV (fun _ => []) (fun k => k = g) :=
  ⟨(by rintro k rfl; exact ⟨hB, hb.lt⟩), rfl, hb, (fun p hp => World.ownsRow_nil _ _ _ _), (fun p hp k h => by cases h), (fun p q hp hq hne k h => by cases h)⟩
theorem over_new {w0 w1 w2 W : World} {gx gy gi go : Nat} {F1 F2 : Nat → Prop} (h1 : Mx w1 w0.heap.size gx 16 emptyQ 0 F1) (h2 : Mx w2 w1.heap.size gy 16 emptyQ 0 F2) (hb : Below w2.heap.size w2 W) (hbw : Below w0.heap.size w0 w2) (hb12 : Below w1.heap.size w1 w2) (h01 : w0.heap.size ≤ w1.heap.size)
    (hi : Blk W gi 43 (eight noV)) (ho : Blk W go 43 (eight noV)) (hgi : w2.heap.size ≤ gi) (hgo : w2.heap.size ≤ go) (hne : gi ≠ go) :
    Over w0 W gx gy gi go 0 emptyQ emptyQ emptyQ emptyQ (.slice none 0 0) [] := by
  have hs := hb12.size
  have hs0 := hbw.size
  obtain ⟨gs2, Fs2, h2a⟩ := h2
  have hy : Mx w2 w0.heap.size gy 16 emptyQ 0 F2 := ⟨gs2, Fs2, ⟨h2a.foot.down h01, h2a.own, h2a.lt, h2a.blk, fun i hi => (h2a.q i hi).base h01, h2a.sub, h2a.off⟩⟩
  refine ⟨0, F1, F2, _, _, noV, noV, fun _ => [], fun _ => [], fun k => if k = gi then 3 else if k = go then 4 else if k < w1.heap.size then 1 else 2, ⟨(h1.on hb12).on hb, hy.on hb, shelf_new (by omega) hi, shelf_new (by omega) ho⟩, ⟨fun k hk => ?_, fun k hk => ?_, fun k hk => ?_, fun k hk => ?_⟩, fun p hp v hv => by simp at hv, fun p hp => Txs.nil _, fun p hp => Txs.nil _, ⟨⟨none, 0, rfl, Rd.nil _ _ _⟩, fun k hk => by cases hk⟩, below2 hbw hb (Nat.le_refl _)⟩
  · have := (h1.foot k hk).2
    show (if k = gi then 3 else if k = go then 4 else if k < w1.heap.size then 1 else 2) = 1
    rw [if_neg (by omega), if_neg (by omega), if_pos (by omega)]
  · have := h2a.foot k hk
    show (if k = gi then 3 else if k = go then 4 else if k < w1.heap.size then 1 else 2) = 2
    rw [if_neg (by omega), if_neg (by omega), if_neg (by omega)]
  · show (if k = gi then 3 else if k = go then 4 else if k < w1.heap.size then 1 else 2) = 3
    rw [if_pos hk]
  · show (if k = gi then 3 else if k = go then 4 else if k < w1.heap.size then 1 else 2) = 4
    rw [if_neg (by have : k = go := hk; omega), if_pos hk]
theorem over_base {w0 w : World} {gx gy gi go nx : Nat} {X Y I O : Nat → List (List Nat)} {pv : Value} {pm : List Nat} (h : Over w0 w gx gy gi go nx X Y I O pv pm) : w0.heap.size ≤ gi ∧ w0.heap.size ≤ go := by
  obtain ⟨ny, FX, FY, FI, FO, VI, VO, vi, vo, col, ⟨_, _, hi, ho⟩, _⟩ := h
  exact ⟨(hi.foot _ hi.own).1, (ho.foot _ ho.own).1⟩
set_option maxRecDepth 100000 in
set_option maxHeartbeats 4000000 in
theorem over_any (w : World) (a : Option Addr) (c : Nat) (l : List (Int × Int × List Nat)) (hlc : InA40c w a c l) :
    Calls Try.prog 9 #[.slice a l.length c] w fun e w' => e = .returned (.bool true) ∧ Below w.heap.size w w' := by
  obtain ⟨i0, hi, hz0, hz1, hz2⟩ := info_parts Try.infB
  have hmk : ∀ W, (Instr.makeSlice 80 (.int .i64 8) (.int .i64 8)).run Try.prog W = .ok (.slice (some ⟨W.heap.size, 0, none⟩) 8 8) (W.alloc (.cells (eight noV).toArray 43)) := fun W => eight_made ▸ Go.run_make_row' (P := Try.prog) 80 43 (.slice none 0 0) 24 Try.underlying80 Try.infT rfl .i64 .i64 8 (by omega) (by omega) W
  have HN := hide (fun W => mux_new 16 (by omega) (by omega) W)
  have HL := hide hlc.base
  have HCP := hide hlc.caps
  have hll : l.length ≤ 9223372036854775807 := Nat.le_trans hlc.base.cap hlc.base.max
  clear hlc
  go_enter Try.func9, Try.ntmps9
  go_wp2_with fail
  refine (HN.out _).mono ?_; rintro e w1 ⟨gx, F1, rfl, hm1, hb1⟩
  have HM1 := hide hm1
  have HB1 := hide hb1
  clear hm1 hb1
  go_wp2_with fail
  refine (HN.out _).mono ?_; rintro e w2 ⟨gy, F2, rfl, hm2, hb2⟩
  have HM2 := hide hm2
  have HX2 := hide (HM1.out.on hb2)
  have HB2 := hide (below2 HB1.out hb2 (Nat.le_refl _))
  have HB12w := hide hb2
  have HH := hide (huge40 (HL.out.on HB2.out))
  clear hm2 hb2
  go_wp2_with fail
  refine HH.out.mono ?_; rintro e w' ⟨bb, rfl, rfl, hsm⟩
  have HSM := hide hsm
  clear hsm HH
  cases bb
  case true =>
    go_wp2_with fail
    refine (num40 _ _).mono ?_; rintro e w' ⟨rfl, rfl⟩
    go_wp2_with fail
    refine (num40 _ _).mono ?_; rintro e w' ⟨rfl, rfl⟩
    go_wp2_with fail
    refine (live40 _).mono ?_; rintro e w9 ⟨rfl, hb9⟩
    go_wp2
    go_ret
    exact ⟨rfl, below2 HB2.out hb9 (Nat.le_refl _)⟩
  case false =>
    have HSM2 := hide (HSM.out rfl).2
    have hl100 : l.length ≤ 100 := (HSM.out rfl).1
    clear HSM
    go_wp2_with fail
    refine (num40 _ _).mono ?_; rintro e w' ⟨rfl, rfl⟩
    go_wp2_with fail
    refine (num40 _ _).mono ?_; rintro e w' ⟨rfl, rfl⟩
    go_wp2
    go_cut [7, 8] from 43 (fun v7 v8 wr => ∃ gi go, v7 = .slice (some ⟨gi, 0, none⟩) 8 8 ∧ v8 = .slice (some ⟨go, 0, none⟩) 8 8 ∧ Hid (Over w wr gx gy gi go 0 emptyQ emptyQ emptyQ emptyQ (.slice none 0 0) []))
    case first =>
      have HB12 := hide (show ∀ (o : Obj), Below w2.heap.size w2 ((w2.alloc o).alloc o).drew from fun o => (((Below.refl _ w2).alloc (Nat.le_refl _) o).alloc (by simp) o).drew)
      have HBL1 := hide ((Blk.new w2 43 (eight noV)).alloc (.cells (eight noV).toArray 43)).drew
      have HBL2 := hide (Blk.new (w2.alloc (.cells (eight noV).toArray 43)) 43 (eight noV)).drew
      have HSZ := hide (show (w2.alloc (.cells (eight noV).toArray 43)).heap.size = w2.heap.size + 1 by simp)
      rw [HSZ.out] at HBL2
      go_region
      all_goals
        go_wp2
        go_meet
        case rel =>
          first
            | exact ⟨_, _, rfl, rfl, over_new HM1.out HM2.out (HB12.out _) HB2.out HB12w.out HB1.out.size HBL1.out HBL2.out (Nat.le_refl _) (Nat.le_succ _) (by omega)⟩
            | exact ⟨_, _, rfl, rfl, over_new HM1.out HM2.out (HB12.out _) HB2.out HB12w.out HB1.out.size HBL2.out HBL1.out (Nat.le_succ _) (Nat.le_refl _) (by omega)⟩
    case rest =>
      obtain ⟨gi, go, rfl, rfl, HOV⟩ := hcut
      go_wp2
      go_loopw [9] (fun i wr => ∃ k : Nat, k ≤ l.length ∧ i = .int .i64 k ∧ Hid (∃ nx X Y I O pv pm, Over w wr gx gy gi go nx X Y I O pv pm ∧ Lw k 8 X Y I O)) (fun i _ => l.length - (intOf i).toNat)
      case atStart => exact ⟨0, Nat.zero_le _, rfl, _, _, _, _, _, _, _, HOV.out, lw_new⟩
      case round =>
        obtain ⟨k, hk, rfl, hrel⟩ := hrel
        obtain ⟨nx, X, Y, I, O, pv, pm, hov, hlw⟩ := hrel.out
        have HOV := hide hov
        have HLW := hide hlw
        clear hrel hov hlw
        by_cases hlt : k < l.length
        · obtain ⟨⟨d, pt, m⟩, hpm⟩ : ∃ x, l[k]? = some x := ⟨_, List.getElem?_eq_getElem hlt⟩
          obtain ⟨b, o, u, rfl, hbl, h0, h1, h2, hfb, _⟩ := HL.out.rd k d pt m hpm
          obtain ⟨A, cA, rfl, hA, hby, _⟩ := hfb
          have HA := hide hA
          have HBY := hide hby
          have HBL := hide hbl
          have H0 := hide h0
          have H1 := hide h1
          have H2 := hide h2
          have g0 : (0 : Int) ≤ (k : Int) := by omega
          have g3 : (k : Int) < (l.length : Int) := by omega
          clear hA hby hbl h0 h1 h2 hpm
          go_wp2
          go_cut [64] from 51 to 63 (fun s64 wr => s64 = .bool (decide (mpushE 16 X pt m = 0)) ∧ Hid (Over w wr gx gy gi go nx (mpushL 16 X pt m) Y I O pv pm))
          case first =>
            have HBD := hide (show Below w.heap.size w wr.drew from HOV.out.bel.drew)
            have HOD := hide (show Over w wr.drew gx gy gi go nx X Y I O pv pm from HOV.out.drewN 1)
            have HPU := hide (over_push HOD.out pt A cA m ((HA.out.below HBD.out (Nat.le_refl _)).more HBD.out.size))
            have c1 : wr.cell? ⟨b, o + k * 3 + 1, none⟩ = some (.int .i64 pt) := (HOV.out.bel.cell (p := ⟨b, o + k * 3 + 1, none⟩) HBL.out).trans H1.out
            have c2 : wr.cell? ⟨b, o + k * 3 + 2, none⟩ = some (.slice A m.length cA) := (HOV.out.bel.cell (p := ⟨b, o + k * 3 + 2, none⟩) HBL.out).trans H2.out
            obtain ⟨ev, hev⟩ : ∃ ev, ev = mpushE 16 X pt m := ⟨_, rfl⟩
            rw [← hev] at HPU
            have hz : (((ev : Nat) : Int) == 0) = decide (ev = 0) := by rw [show ((((ev : Nat) : Int) == 0) = decide (((ev : Nat) : Int) = 0)) from rfl]; exact decide_eq_decide.2 (by omega)
            have HEV := hide hev
            clear hev
            go_wp2
            go_region_held3 (fun w' => w'.cell? ⟨b, o + k * 3 + 1, none⟩ = some (.int .i64 pt) ∧ w'.cell? ⟨b, o + k * 3 + 2, none⟩ = some (.slice A m.length cA)) (first
                | exact ⟨(hov4.bel.cell (p := ⟨b, o + k * 3 + 1, none⟩) HBL.out).trans H1.out, (hov4.bel.cell (p := ⟨b, o + k * 3 + 2, none⟩) HBL.out).trans H2.out⟩
                | go_keep)
              ((first
                | (go_at_call 35; (with_reducible refine HPU.out.mono ?_); rintro e w4 ⟨rfl, hov4⟩)
                | (go_at_call 33; (with_reducible refine (num40 _ _).mono ?_); rintro e w5 ⟨rfl, rfl⟩)))
            go_wp2
            go_meet
            case rel =>
              exact ⟨by rw [← HEV.out]; try simp only [hz], hov4⟩
          case rest =>
            obtain ⟨rfl, HOP⟩ := hcut
            go_upto_if 64 with (fail)
            go_cut [] from 51 to 86 (fun wr => Hid (∃ nx X Y I O pv pm, Over w wr gx gy gi go nx X Y I O pv pm ∧ Lw (k + 1) 8 X Y I O))
            case first =>
              by_cases he : mpushE 16 X pt m = 0
              · obtain ⟨p, rfl, hp8, hm63, hL⟩ := mpushE0 he
                rw [hL] at HOP
                rw [show decide (mpushE 16 X (p : Int) m = 0) = true from decide_eq_true he]
                have HP8 := hide hp8
                have HM63 := hide hm63
                clear he hL hm63 hp8
                have HOV4 := hide (show Over w wc.drew gx gy gi go nx _ Y I O pv pm from HOP.out.drewN 1)
                have HB4 := hide HOV4.out.bel
                obtain ⟨AI, cI, vs, hcI, hoI, hgI, hgrI, hnewI⟩ := over_I HOV4.out HP8.out
                have hgI2 := (over_base HOV4.out).1
                have HOI := hide hoI
                have HGI := hide hgI
                have HGI2 := hide hgI2
                have HGR := hide hgrI
                have HNEW := hide hnewI
                have c0 : wc.cell? ⟨gi, p, none⟩ = some (.slice AI (I p).length cI) := hcI
                have c1 : wc.cell? ⟨b, o + k * 3 + 1, none⟩ = some (.int .i64 p) := (HOP.out.bel.cell (p := ⟨b, o + k * 3 + 1, none⟩) HBL.out).trans H1.out
                have c2 : wc.cell? ⟨b, o + k * 3 + 2, none⟩ = some (.slice A m.length cA) := (HOP.out.bel.cell (p := ⟨b, o + k * 3 + 2, none⟩) HBL.out).trans H2.out
                have hlenI := HLW.out.len p HP8.out
                have g1 : (I p).length + 1 ≤ 9223372036854775807 := by omega
                have g2 : ((I p).length + 1) * 24 ≤ 140737488355328 := by omega
                have p7 : (p : Int) < 8 := by have := HP8.out; omega
                have p0 : (0 : Int) ≤ (p : Int) := by omega
                have d0 : ∀ ob : Obj, (wc.alloc ob).cell? ⟨gi, p, none⟩ = some (.slice AI (I p).length cI) := fun ob => (((Below.refl _ wc).alloc (Nat.le_refl _) ob).cell (p := ⟨gi, p, none⟩) hgI).trans hcI
                have d1 : ∀ ob : Obj, (wc.alloc ob).cell? ⟨b, o + k * 3 + 1, none⟩ = some (.int .i64 p) := fun ob => ((HOP.out.bel.alloc HOP.out.bel.size ob).cell (p := ⟨b, o + k * 3 + 1, none⟩) HBL.out).trans H1.out
                have d2 : ∀ ob : Obj, (wc.alloc ob).cell? ⟨b, o + k * 3 + 2, none⟩ = some (.slice A m.length cA) := fun ob => ((HOP.out.bel.alloc HOP.out.bel.size ob).cell (p := ⟨b, o + k * 3 + 2, none⟩) HBL.out).trans H2.out
                clear hcI hoI hgI hgI2 hgrI hnewI hlenI
                have HTX : Hid (Tx w (.slice A m.length cA) m) := ⟨A, cA, rfl, HA.out⟩
                have HLP := hide (HLW.out.push HP8.out HM63.out HBY.out)
                go_wp2
                go_region_law
                 ((refine step_app1 wc.drew (by rfl) (.tmp 78) (.tmp 84) 43 (by rfl) (gi + 1) 33 i0 (.slice none 0 0) 24 Try.underlying43 hi hz0 hz1 hz2 (by rfl) (.slice AI (I p).length cI) (I p).length vs (by rfl) HOI.out (.slice A m.length cA) (by rfl) (by rfl) g1 g2 HGI.out ?_; intro v' w7 hown1 hg1 hat1; obtain ⟨A', c', rfl, _⟩ := own_val hown1; have e7 := (HGR.out w7 hg1).1; have f7 := (HGR.out w7 hg1).2; have hb7 : Below w.heap.size w w7 := below_app HB4.out (own_more HOI.out (Nat.le_succ_of_le HGI2.out)) hg1 HB4.out.size; have e8 : w7.cell? ⟨b, o + k * 3 + 1, none⟩ = some (.int .i64 p) := (hb7.cell (p := ⟨b, o + k * 3 + 1, none⟩) HBL.out).trans H1.out; have e9 : w7.cell? ⟨b, o + k * 3 + 2, none⟩ = some (.slice A m.length cA) := (hb7.cell (p := ⟨b, o + k * 3 + 2, none⟩) HBL.out).trans H2.out))
                all_goals
                  go_wp2
                  go_meet
                  case rel => exact ⟨_, _, _, _, _, _, _, HNEW.out _ _ _ _ HTX.out hown1 hg1 hat1, HLP.out⟩
              · rw [mpushN he] at HOP
                rw [show decide (mpushE 16 X pt m = 0) = false from decide_eq_false he]
                have HLW2 := hide HLW.out.up
                clear he
                go_wp2
                go_meet
                case rel => exact ⟨_, _, _, _, _, _, _, HOP.out, HLW2.out⟩
            case rest =>
              obtain ⟨nx, X, Y, I, O, pv, pm, hov, hlw⟩ := hcut.out
              have HOV := hide hov
              have HLW := hide hlw
              clear hcut hov hlw
              have c0 : wc.cell? ⟨b, o + k * 3, none⟩ = some (.int .i64 d) := (HOV.out.bel.cell (p := ⟨b, o + k * 3, none⟩) HBL.out).trans H0.out
              by_cases hd : 0 < d
              · go_upto_region 12 with (fail)
                go_cut [10, 11] from 93 to 97 (fun s10 s11 wr => ∃ (ok : Bool) (fr : List Nat) (A : Option Addr) (c : Nat), s11 = .bool ok ∧ s10 = .slice A fr.length c ∧ Hid (ok = false → ∃ nx, Over w wr gx gy gi go nx X Y I O pv pm) ∧ Hid (ok = true → ∃ nx X', fr.length ≤ c ∧ fr.length ≤ 140737488355328 ∧ Byt fr ∧ Rd wr.heap.size wr A (u8s fr) ∧ takeE 16 Y fr = 0 ∧ Over w wr gx gy gi go nx X' Y I O pv pm ∧ Lw (k + 1) 0 X' (takeQ 16 Y fr) I O))
                case first =>
                  cases hno : nextOf X nx with
                  | none =>
                    have HN0 := hide (over_next0 HOV.out HLW.out.small hno)
                    clear hno
                    go_wp2_with fail
                    refine HN0.out.mono ?_; rintro e w4 ⟨A4, c4, rfl, hov4⟩
                    have HOV4 := hide hov4
                    clear hov4 c0
                    go_wp2
                    go_meet
                    case rel => exact ⟨false, [], A4, c4, rfl, rfl, (fun _ => ⟨_, HOV4.out⟩), (fun h => by cases h)⟩
                  | some p =>
                    obtain ⟨hp8, hne, _⟩ := next_some hno
                    obtain ⟨m2, ms, hX⟩ : ∃ m2 ms, X p = m2 :: ms := by
                      cases hx : X p with
                      | nil => exact absurd hx hne
                      | cons m2 ms => exact ⟨m2, ms, rfl⟩
                    have HN1 := hide (over_next1 HOV.out HLW.out.small hno hX)
                    have HTK := hide (HLW.out.over hp8 hX)
                    clear hno hX hne
                    go_wp2_with fail
                    refine HN1.out.mono ?_; rintro e w4 ⟨A4, c4, rfl, hc4, hr4, hov4⟩
                    have HOV4 := hide hov4
                    have HR4 := hide hr4
                    have HC4 := hide hc4
                    clear hov4 c0 hr4 hc4
                    go_wp2
                    go_meet
                    case rel => exact ⟨true, p :: m2, A4, c4, rfl, rfl, (fun h => by cases h), (fun _ => ⟨_, _, HC4.out, (by have := HTK.out.1; simp; omega), HTK.out.2.1, HR4.out, HTK.out.2.2.1, HOV4.out, HTK.out.2.2.2⟩)⟩
                case rest =>
                  obtain ⟨ok, fr, A4, c4, rfl, rfl, hk0, hk1⟩ := hcut
                  clear c0
                  go_upto_region 13 with (fail)
                  go_cut [105] from 98 to 104 (fun s105 wr => s105 = .bool false ∧ Hid (∃ nx X Y I O pv pm, Over w wr gx gy gi go nx X Y I O pv pm ∧ Lw (k + 1) 0 X Y I O))
                  case first =>
                    cases ok with
                    | false =>
                      obtain ⟨nx4, hov4⟩ := hk0.out rfl
                      have HOV4 := hide hov4
                      clear hov4 hk0 hk1
                      go_wp2
                      go_meet
                      case rel => exact ⟨rfl, _, _, _, _, _, _, _, HOV4.out, HLW.out.zero⟩
                    | true =>
                      obtain ⟨nx4, X4, hc, hl4, hb4, hr4, ht4, hov4, hlw4⟩ := hk1.out rfl
                      have HTK := hide (over_take hov4 A4 c4 fr hc hl4 hb4 hr4)
                      rw [ht4] at HTK
                      have HLW4 := hide hlw4
                      clear hk0 hk1 hc hl4 hb4 hr4 ht4 hov4 hlw4
                      go_wp2_with fail
                      refine HTK.out.mono ?_; rintro e w5 ⟨rfl, hov5⟩
                      have HOV5 := hide hov5
                      clear hov5
                      go_wp2_with fail
                      refine (num40 _ _).mono ?_; rintro e w' ⟨rfl, rfl⟩
                      go_wp2
                      go_meet
                      case rel => exact ⟨rfl, _, _, _, _, _, _, _, HOV5.out, HLW4.out⟩
                  case rest =>
                    obtain ⟨rfl, HOV5⟩ := hcut
                    clear hk0 hk1
                    go_wp2
                    go_loopw [12] (fun j wr => ∃ q : Nat, q ≤ 8 ∧ j = .int .i64 q ∧ Hid (∃ nx X Y I O pv pm, Over w wr gx gy gi go nx X Y I O pv pm ∧ Lw (k + 1) q X Y I O)) (fun j _ => 8 - (intOf j).toNat)
                    case atStart => exact ⟨0, by omega, rfl, HOV5⟩
                    case round =>
                      obtain ⟨q, hq, rfl, hrel⟩ := hrel
                      by_cases hq8 : q < 8
                      · obtain ⟨nx, X, Y, I, O, pv, pm, hov, hlw⟩ := hrel.out
                        have HOV6 := hide hov
                        have HLW6 := hide hlw
                        have HQ8 := hide hq8
                        clear hrel hov hlw HOV HLW HOV5
                        cases hY : Y q with
                        | nil =>
                          have HPO := hide (over_pop0 HOV6.out hq8 hY)
                          have HLW7 := hide (HLW6.out.pop0 hY)
                          clear hY
                          go_wp2_with fail
                          refine HPO.out.mono ?_; rintro e w6 ⟨A6, c6, rfl, hov6⟩
                          have HOV7 := hide hov6
                          clear hov6
                          go_wp2
                          go_roundw
                          case rel => exact ⟨q + 1, by omega, by go_num, _, _, _, _, _, _, _, HOV7.out, HLW7.out⟩
                          case measure => simp [intOf]; omega
                        | cons m3 ys =>
                          have HPO := hide (over_pop1 HOV6.out hq8 hY)
                          have HLW7 := hide (HLW6.out.pop1 hq8 hY)
                          clear hY
                          go_wp2_with fail
                          refine HPO.out.mono ?_; rintro e w6 ⟨A6, c6, rfl, hov6⟩
                          have HOV7 := hide hov6
                          obtain ⟨AO, cO, vs, hcO, hoO, hgO, hgrO, hnewO⟩ := over_O hov6 HQ8.out
                          have HOO := hide hoO
                          have HGO := hide hgO
                          have HGR := hide hgrO
                          have HNEW := hide hnewO
                          have hlenO := Nat.le_trans (HLW6.out.outLe HQ8.out) (HLW6.out.len q HQ8.out)
                          have g1 : (O q).length + 1 ≤ 9223372036854775807 := by omega
                          have g2 : ((O q).length + 1) * 24 ≤ 140737488355328 := by omega
                          have p7 : (q : Int) < 8 := by have := HQ8.out; omega
                          have p0 : (0 : Int) ≤ (q : Int) := by omega
                          have c0 : w6.cell? ⟨go, q, none⟩ = some (.slice AO (O q).length cO) := hcO
                          clear hov6 hcO hoO hgO hgrO hnewO hlenO
                          go_wp2_with (at_builtin; refine wpList_app1 _ rfl (.tmp 122) (.tmp 124) 43 rfl (go + 1) 33 i0 (.slice none 0 0) 24 Try.underlying43 hi hz0 hz1 hz2 rfl _ _ _ rfl HOO.out _ rfl (by rfl) g1 g2 HGO.out ?_; intro v' w7 hown1 hg1 hat1; obtain ⟨A', c', rfl, _⟩ := own_val hown1; have e7 := (HGR.out w7 hg1).1; have f7 := (HGR.out w7 hg1).2)
                          have HNW := hide (HNEW.out w7 _ hown1 hg1 hat1)
                          clear hown1 hg1 hat1 e7 f7
                          go_roundw
                          case rel => exact ⟨q + 1, by omega, by go_num, _, _, _, _, _, _, _, HNW.out, HLW7.out⟩
                          case measure => simp [intOf]; omega
                      · obtain rfl : q = 8 := by omega
                        obtain ⟨nx, X, Y, I, O, pv, pm, hov, hlw⟩ := hrel.out
                        have HOV6 := hide hov
                        have HLW6 := hide hlw
                        clear hrel hov hlw HOV HLW HOV5
                        go_wp2
                        go_roundw
                        case rel => exact ⟨k + 1, by omega, by go_num, _, _, _, _, _, _, _, HOV6.out, HLW6.out⟩
                        case measure => simp [intOf]; omega
              · go_wp2
                go_roundw
                case rel => exact ⟨k + 1, by omega, by go_num, _, _, _, _, _, _, _, HOV.out, HLW.out⟩
                case measure => simp [intOf]; omega
        · obtain rfl : k = l.length := by omega
          go_wp2
          go_loopw [15] (fun i wr => ∃ p : Nat, p ≤ 8 ∧ i = .int .i64 p ∧ Hid (Over w wr gx gy gi go nx X Y I O pv pm)) (fun i _ => 8 - (intOf i).toNat)
          case atStart => exact ⟨0, by omega, rfl, HOV⟩
          case round =>
            obtain ⟨p, hp, rfl, hrel⟩ := hrel
            have HOV6 := hide hrel.out
            clear hrel HOV
            by_cases hp8 : p < 8
            · have hT : I p = O p ++ X p := by have := HLW.out.eq p hp8; rwa [HLW.out.gone p hp8 hp8, List.append_nil] at this
              obtain ⟨AI, cI, AO, cO, hcI, hcO, hcap, hAI, hsame⟩ := over_same (show Over w wr.drew gx gy gi go nx X Y I O pv pm from HOV6.out.drewN 1) hp8 hT (by have := HLW.out.len p hp8; omega) HLW.out.good
              have HSM : Hid (∀ d, Calls Try.prog 28 #[.slice AO (O p).length cO, .slice AI (O p).length d] wr.drew fun e w' => e = .returned (.bool true) ∧ Over w w' gx gy gi go nx X Y I O pv pm ∧ w'.cell? ⟨gi, p, none⟩ = some (.slice AI (I p).length cI) ∧ w'.cell? ⟨go, p, none⟩ = some (.slice AO (O p).length cO)) := fun d => (hsame d).mono (by
                rintro e w' ⟨he, n, rfl⟩
                exact ⟨he, (show Over w wr.drew gx gy gi go nx X Y I O pv pm from HOV6.out.drewN 1).drewN n, hcI, hcO⟩)
              have HLEN := hide (fun w' (h : Over w w' gx gy gi go nx X Y I O pv pm) => over_len h hp8)
              have hle := HLW.out.outLe hp8
              have hsub : ((I p).length : Int) - ((O p).length : Int) = ((X p).length : Int) := by rw [hT, List.length_append]; omega
              have p7 : (p : Int) < 8 := by omega
              have p0 : (0 : Int) ≤ (p : Int) := by omega
              have hlI : (I p).length ≤ 100 := by have := HLW.out.len p hp8; omega
              obtain ⟨nI, hnI⟩ : ∃ n, n = (I p).length := ⟨_, rfl⟩
              obtain ⟨nO, hnO⟩ : ∃ n, n = (O p).length := ⟨_, rfl⟩
              obtain ⟨nX, hnX⟩ : ∃ n, n = (X p).length := ⟨_, rfl⟩
              rw [← hnI, ← hnO] at hle
              rw [← hnI, ← hnO, ← hnX] at hsub
              rw [← hnI] at hcI hcap hAI hlI HSM
              rw [← hnO] at hcO HSM
              rw [← hnX] at HLEN
              clear hsame hT hnI hnO hnX
              have hlt : ¬ (nI : Int) < (nO : Int) := by omega
              have hgt : decide (nI < nO) = false := decide_eq_false (by omega)
              have hgn : ¬ nI < nO := by omega
              have hle2 : (nO : Int) ≤ (cI : Int) := by omega
              have hw : (wrap64 ((nI : Int) - (nO : Int)) != (nX : Int)) = false := by rw [hsub, bne_eq_false_iff_eq]; unfold wrap64; omega
              have cI0 : wr.cell? ⟨gi, p, none⟩ = some (.slice AI nI cI) := hcI
              have cO0 : wr.cell? ⟨go, p, none⟩ = some (.slice AO nO cO) := hcO
              clear hcI hcO
              rcases hAI with ⟨rfl, rfl, rfl⟩ | ⟨gI, rfl⟩
              · obtain rfl : nO = 0 := by omega
                have hx0 : (IntKind.i64.wrap 0 != (nX : Int)) = false := by rw [bne_eq_false_iff_eq, IntKind.wrap_i64]; omega
                go_wp2
                go_region_held3 (fun w' => w'.cell? ⟨gi, p, none⟩ = some (.slice none 0 0) ∧ w'.cell? ⟨go, p, none⟩ = some (.slice AO 0 cO)) (first
                  | exact ⟨cI0, cO0⟩
                  | exact ⟨c7, d7⟩
                  | go_keep)
                 ((first
                  | (go_at_call 28; (with_reducible refine (HSM.out _).mono ?_); rintro e w7 ⟨rfl, hov7, c7, d7⟩)
                  | (go_at_call 36; (with_reducible refine (HLEN.out _ hov7).mono ?_); rintro e w8 ⟨rfl, rfl⟩)))
                all_goals
                  go_wp2
                  first
                    | exact ⟨⟨p + 1, by omega, by go_num, hov7⟩, by simp [intOf]; omega⟩
                    | (exfalso; have hbad : (IntKind.i64.wrap 0 != (nX : Int)) = true := by assumption
                       rw [hx0] at hbad; cases hbad)
              · have hx2 : (IntKind.i64.wrap (nX : Int) != (nX : Int)) = false := by rw [bne_eq_false_iff_eq, IntKind.wrap_i64]; omega
                go_wp2
                go_region_held3 (fun w' => w'.cell? ⟨gi, p, none⟩ = some (.slice (some ⟨gI, 0, none⟩) nI cI) ∧ w'.cell? ⟨go, p, none⟩ = some (.slice AO nO cO)) (first
                  | exact ⟨cI0, cO0⟩
                  | exact ⟨c7, d7⟩
                  | go_keep)
                 ((first
                  | (go_at_call 28; (with_reducible refine (HSM.out _).mono ?_); rintro e w7 ⟨rfl, hov7, c7, d7⟩)
                  | (go_at_call 36; (with_reducible refine (HLEN.out _ hov7).mono ?_); rintro e w8 ⟨rfl, rfl⟩)))
                all_goals
                  go_wp2
                  first
                    | exact ⟨⟨p + 1, by omega, by go_num, hov7⟩, by simp [intOf]; omega⟩
                    | (exfalso; have hbad : (IntKind.i64.wrap (nX : Int) != (nX : Int)) = true := by assumption
                       rw [hx2] at hbad; cases hbad)
            · obtain rfl : p = 8 := by omega
              go_wp2_with fail
              refine (live40 _).mono ?_; rintro e w9 ⟨rfl, hb9⟩
              go_wp2
              go_ret
              exact ⟨rfl, below2 HOV6.out.bel hb9 (Nat.le_refl _)⟩
end Go.Proofs.Ytfcappddncnglaa
