/- Layer 28: the law GiverDoes, walked, where the room is one. No conditions. -/
import Derived.Test.YtfcappddncnglaaGivJ
import Derived.Deep.CutBlock
namespace Go.Proofs.Ytfcappddncnglaa
open Go.RowKit No
set_option linter.unusedVariables false
attribute [local go_sem ↓] Go.wp_at_zero Go.wp_at_succ

/-- what the loop keeps. -/
def KeepG (w0 wr : World) (B2 gx gs gy gt R : Nat) (L : List Nat) (k : Nat) : Prop := ∃ s F G, BothG w0 wr B2 gx gs gy gt R L s F G ∧ s.ent ≤ k ∧ s.ret ≤ k ∧ s.U.length ≤ k + 1
set_option maxRecDepth 100000 in
set_option maxHeartbeats 8000000 in
theorem gdoes_in (R : Nat) (hR : 1 ≤ R) (hR2 : R ≤ 16) {w : World} {D : Option Addr} {cd : Nat} {L : List Nat} (hd : InU w D cd L) {a : Option Addr} {c : Nat} {l : List (Int × Pk)} (hl : InA28 w a c l) :
    Calls Try.prog 10 #[.int .i64 (R : Nat), .slice D L.length cd, .slice a l.length c] w fun e w' => e = .returned (.bool true) ∧ Below w.heap.size w w' := by
  have HH := hide (huge28 hl D L.length cd hd.len)
  have HN := hide (src_new D cd L hd.reach w hd.rd)
  have HM := hide (fun W (hb : Below w.heap.size w W) => rsrc_new D cd L hd.reach W (hd.rd.on hb))
  have HX := hide (fun W B gs Fs (h : Src W B gs L [] Fs) (hB : B ≤ W.heap.size) => gv_new (R : Nat) (by omega) (by omega) h hB hd.reach (by simp))
  have HY := hide (fun W B gs Fs (h : RSrc W B gs L [] Fs) (hB : B ≤ W.heap.size) => rgv_new (R : Nat) (by omega) (by omega) h hB hd.reach (by simp))
  have HL := hide hl
  have HLR := hide hd.reach
  have hll : l.length ≤ 9223372036854775807 := Nat.le_trans hl.cap hl.max
  clear hl hd hR hR2
  go_enter Try.func10, Try.ntmps10
  go_wp2_with fail
  refine HH.out.mono ?_; rintro e w' ⟨b, rfl, rfl, hsm⟩
  have HSM := hide hsm
  clear hsm HH
  cases b
  case true =>
    go_wp2_with fail
    refine (live28 _).mono ?_; rintro e w' ⟨rfl, hb⟩
    go_wp2
    go_ret
    exact ⟨rfl, hb⟩
  case false =>
    have hl100 : l.length ≤ 100 := (HSM.out rfl).1
    clear HSM
    go_wp2_with fail
    refine HN.out.mono ?_; rintro e w1 ⟨gs, Fs, rfl, hs1, hb1⟩
    have HS1 := hide hs1
    have HB1 := hide hb1
    have HX1 := hide (HX.out w1 w.heap.size gs Fs hs1 hb1.size)
    clear hs1 hb1 HN HX
    go_wp2_with fail
    refine HX1.out.mono ?_; rintro e w2 ⟨gx, F2, rfl, hg, ht⟩
    have HG2 : Hid (Gv w2 w.heap.size gx gs R L (newG L []) F2) := hg
    have HB2 := hide (ht.below HB1.out HS1.out.1 HB1.out.size)
    have HM2 := hide (HM.out w2 HB2.out)
    clear hg ht HX1 HM HS1 HB1
    go_wp2_with fail
    refine HM2.out.mono ?_; rintro e w3 ⟨gt, Gs, rfl, hs3, hb3⟩
    have HS3 := hide hs3
    have HB3 := hide hb3
    have HY3 := hide (HY.out w3 w2.heap.size gt Gs hs3 hb3.size)
    clear hs3 hb3 HM2 HY
    go_wp2_with fail
    refine HY3.out.mono ?_; rintro e w4 ⟨gy, G4, rfl, hr4, ht4⟩
    have HBO : Hid (BothG w w4 w2.heap.size gx gs gy gt R L (newG L []) F2 G4) := by
      have o1 : Off F2 Gs := Off.new HG2.out.foot HS3.out.1 (Nat.le_refl _)
      have m3 := HG2.out.on HB3.out
      have o2 : Off G4 F2 := ht4.off o1.symm m3.foot
      exact ⟨m3.kept (ht4.kept o1.symm m3.foot) ht4.size, hr4, o2.symm, HB2.out.size, ht4.below (below2 HB2.out HB3.out (Nat.le_refl _)) (HS3.out.1.down HB2.out.size) (Nat.le_trans HB2.out.size HB3.out.size)⟩
    clear hr4 ht4 HY3 HS3 HB3 HG2 HB2
    go_wp2_with fail
    refine (num28 _ _).mono ?_; rintro e w' ⟨rfl, rfl⟩
    go_wp2
    go_loopw [11] (fun i wr => ∃ k : Nat, k ≤ l.length ∧ i = .int .i64 k ∧ Hid (KeepG w wr w2.heap.size gx gs gy gt R L k)) (fun i _ => l.length - (intOf i).toNat)
    case atStart => exact ⟨0, Nat.zero_le _, rfl, _, _, _, HBO.out, Nat.le_refl _, Nat.le_refl _, Nat.le_refl _⟩
    case round =>
      obtain ⟨k, hk, rfl, hrel⟩ := hrel
      obtain ⟨s, F, G, hbo, he, hr, hu⟩ := hrel.out
      have HB := hide hbo
      have HE := hide he
      have HR := hide hr
      have HU := hide hu
      clear hrel hbo he hr hu HBO
      by_cases hlt : k < l.length
      · obtain ⟨⟨d, p⟩, hpm⟩ : ∃ x, l[k]? = some x := ⟨_, List.getElem?_eq_getElem hlt⟩
        obtain ⟨b, o, A, cA, rfl, hbl, h0, hc, hpk, _⟩ := HL.out.rd k d p hpm
        have HC := hide (fun W (hb : Below w.heap.size w W) j v (hv : (pkC p A cA)[j]? = some v) => (hb.cell (p := ⟨b, o + k * 6 + (j + 1), none⟩) hbl).trans (hc j v hv))
        have HPK := hide hpk
        have c0 := (HB.out.bel.cell (p := ⟨b, o + k * 6, none⟩) hbl).trans h0
        have g0 : (0 : Int) ≤ (k : Int) := by omega
        have g3 : (k : Int) < (l.length : Int) := by omega
        clear hpm h0 hc hpk hbl
        go_upto_block 2 with (fail)
        go_cut [] from 63 to 109 (fun wr => Hid (KeepG w wr w2.heap.size gx gs gy gt R L (k + 1)))
        case first =>
          by_cases d0 : d = 0
          · subst d0
            have HBD := hide (HB.out.on (Below.refl _ _).drew)
            have HCX := hide (fun W (hb : Below w.heap.size w W) => (show (W.cell? ⟨b, o + k * 6 + 1, none⟩ = some (.int .i64 p.k) ∧ W.cell? ⟨b, o + k * 6 + 2, none⟩ = some (.int .u64 (p.T : Nat)) ∧ W.cell? ⟨b, o + k * 6 + 3, none⟩ = some (.int .u64 (p.C : Nat)) ∧ W.cell? ⟨b, o + k * 6 + 4, none⟩ = some (.int .u64 (p.R : Nat)) ∧ W.cell? ⟨b, o + k * 6 + 5, none⟩ = some (.slice A p.d.length cA)) from
              ⟨HC.out W hb 0 _ rfl, HC.out W hb 1 _ rfl, HC.out W hb 2 _ rfl, HC.out W hb 3 _ rfl, HC.out W hb 4 _ rfl⟩))
            have HT1 := hide (gv_take HBD.out.m HLR.out (by have := HU.out; omega) (by have := HE.out; omega) p A cA ((HPK.out.rd.below HBD.out.bel (Nat.le_refl _)).more HBD.out.bel.size))
            have HT2 := hide (fun w3 F3 (hu3 : Turn F F3 wr.drew w3) => rgv_take (HBD.out.mid hu3) HLR.out (by have := HU.out; omega) (by have := HE.out; omega) p A cA ((HPK.out.rd.below (HBD.out.bel1 hu3) (Nat.le_refl _)).more (HBD.out.bel1 hu3).size))
            have HTL := hide (show (takeT L s p).length ≤ 9223372036854775807 by have := takeT_len L s p; omega)
            clear c0
            go_wp2
            go_region_held3 (fun w' => w'.cell? ⟨b, o + k * 6 + 1, none⟩ = some (.int .i64 p.k) ∧ w'.cell? ⟨b, o + k * 6 + 2, none⟩ = some (.int .u64 (p.T : Nat)) ∧ w'.cell? ⟨b, o + k * 6 + 3, none⟩ = some (.int .u64 (p.C : Nat)) ∧ w'.cell? ⟨b, o + k * 6 + 4, none⟩ = some (.int .u64 (p.R : Nat)) ∧ w'.cell? ⟨b, o + k * 6 + 5, none⟩ = some (.slice A p.d.length cA)) (first
                | exact HCX.out _ (below2 (HBD.out.step hu3 hg3 hu4 hr4).bel hb5 (Nat.le_refl _))
                | exact HCX.out _ (HBD.out.step hu3 hg3 hu4 hr4).bel
                | exact HCX.out _ (HBD.out.bel1 hu3)
                | exact HCX.out _ HBD.out.bel)
              ((first
                | (go_at_call 57; (with_reducible refine HT1.out.mono ?_); rintro e w3 ⟨A3, c3, F3, rfl, ht3, hg3, hu3, hn3⟩)
                | (go_at_call 58; (with_reducible refine (HT2.out _ _ hu3).mono ?_); rintro e w4 ⟨A4, c4, G4, rfl, ht4, hr4, hu4, hn4⟩)
                | (go_at_call 56; (with_reducible refine (toks_same (HBD.out.toks ht3 hn3 hu3.size hu4) ht4 HTL.out).mono ?_); rintro e w5 ⟨rfl, hb5⟩)))
            have HZ := hide ((HBD.out.step hu3 hg3 hu4 hr4).on hb5)
            clear ht3 hg3 hu3 hn3 ht4 hr4 hu4 hn4 hb5
            go_wp2
            go_meet
            case rel =>
              have hf := takeS_few R L s p
              have := HE.out; have := HR.out; have := HU.out
              exact ⟨_, _, _, HZ.out, by omega, by omega, by omega⟩
          · have e0 : (d == 0) = false := by simp; exact d0
            by_cases d1 : d = 1
            · subst d1
              have HR1 := hide (gv_recv HB.out.m (by have := HR.out; omega))
              have HR2 := hide (fun w3 F3 (hu3 : Turn F F3 wr w3) => rgv_recv (HB.out.mid hu3) (by have := HR.out; omega))
              have hfl : ((getAt s.q 0).getD []).length ≤ 64 := by obtain ⟨gq, Fs, tp, cp, hm⟩ := HB.out.m; exact getAt_len hm.q.2.2.2.1 0
              unfold RecR at HR1
              unfold RRecR at HR2
              obtain ⟨f, hf⟩ : ∃ f, f = (getAt s.q 0).getD [] := ⟨_, rfl⟩
              obtain ⟨bb, hbb⟩ : ∃ b, b = (getAt s.q 0).isSome := ⟨_, rfl⟩
              obtain ⟨ts, hts⟩ : ∃ ts, ts = recT s := ⟨_, rfl⟩
              have htl : ts.length ≤ 1 := by rw [hts]; exact recT_len s
              rw [← hf] at hfl
              simp only [← hf, ← hbb, ← hts] at HR1 HR2
              have hne : (bb != bb) = false := by simp
              clear hf hbb hts d0 c0
              go_wp2_with fail
              refine HR1.out.mono ?_; rintro e w3 ⟨A3, c3, A5, c5, F3, rfl, ho3, ht3, hg3, hu3, hn3⟩
              have HR3 := hide (HR2.out w3 F3 hu3)
              have HO3 := hide ho3
              have HT3 := hide ht3
              have HG3 := hide hg3
              have HU3 := hide hu3
              have HN3 := hide hn3
              clear ho3 ht3 hg3 hu3 hn3 HR1 HR2
              go_wp2_with fail
              refine HR3.out.mono ?_; rintro e w4 ⟨A4, c4, A6, c6, G4, rfl, hrd4, ht4, hr4, hu4, hn4⟩
              have HZ := hide (HB.out.step HU3.out HG3.out hu4 hr4)
              have HT4 := hide ht4
              have HT5 := hide (HB.out.toks HT3.out HN3.out HU3.out.size hu4)
              have HQ := hide (same_eq (c := c3) (d := c4) (own_rd (HB.out.own HO3.out hu4)) hrd4 (by omega))
              clear hrd4 ht4 hr4 hu4 hn4 HR3
              go_wp2_with fail
              refine HQ.out.mono ?_; rintro e w5 ⟨rfl, hb5⟩
              have HB5 := hide hb5
              have HQ2 := hide (toks_same (c := c5) (d := c6) (HT5.out.on hb5) (HT4.out.on hb5) (by omega))
              clear hb5
              go_wp2_with fail
              refine HQ2.out.mono ?_; rintro e w6 ⟨rfl, hb6⟩
              have HZ2 := hide ((HZ.out.on HB5.out).on hb6)
              clear hb6
              go_wp2
              go_meet
              case rel =>
                have hf := recS_few s
                have := HE.out; have := HR.out; have := HU.out
                exact ⟨_, _, _, HZ2.out, by omega, by omega, by omega⟩
            · have e1 : (d == 1) = false := by simp; exact d1
              clear d0 d1
              go_wp2
              go_meet
              case rel =>
                have := HE.out; have := HR.out; have := HU.out
                exact ⟨_, _, _, HB.out, by omega, by omega, by omega⟩
        case rest =>
          obtain ⟨s2, F5, G5, hbo, he, hr, hu⟩ := hcut.out
          have HB2 := hide hbo
          have HE2 := hide he
          have HR2 := hide hr
          have HU2 := hide hu
          clear hcut hbo he hr hu HB HE HR HU HC HPK c0 g0 g3 HLR
          go_wp2_with fail
          refine (gv_state HB2.out.m).mono ?_; rintro e w5 ⟨rfl, hb5⟩
          obtain ⟨w6, hw6⟩ : ∃ w6, w6 = w5.alloc (.cells #[.int .i64 (s2.ent : Nat), .int .i64 (s2.ret : Nat), .int .u64 (s2.R : Nat)] 105) := ⟨_, rfl⟩
          have HB6 : Hid (BothG w w6 w2.heap.size gx gs gy gt R L s2 F5 G5) := by rw [hw6]; exact (HB2.out.on hb5).on ((Below.refl _ _).alloc (Nat.le_refl _) _)
          have HX6 : Hid (Blk w6 w5.heap.size 105 [.int .i64 (s2.ent : Nat), .int .i64 (s2.ret : Nat), .int .u64 (s2.R : Nat)]) := by rw [hw6]; exact Blk.new w5 _ _
          have HW6 := hide hw6
          clear hb5 HB2 hw6
          go_wp2
          rw [← HW6.out]
          obtain ⟨gq, Fs, tp, cp, hr⟩ := HB6.out.r
          have hsm := hr.q.2.2.2.1
          have hfew : s2.q.length ≤ 16 := by have := hr.q.2.2.1; omega
          obtain ⟨_, _, _, _, V, cV, vs, hbk, hov, _, htx, _⟩ := hr.q
          have HOB := hide hr.ob.blk
          have HBK := hide hbk
          have HRV := hide (own_rd hov)
          have HTX := hide htx
          have HCY := hide (fun W (hb : Below w6.heap.size w6 W) => (show ((W.cell? ⟨w5.heap.size, 0, none⟩ = some (.int .i64 (s2.ent : Nat)) ∧ W.cell? ⟨w5.heap.size, 1, none⟩ = some (.int .i64 (s2.ret : Nat)) ∧ W.cell? ⟨w5.heap.size, 2, none⟩ = some (.int .u64 (s2.R : Nat))) ∧ (W.cell? ⟨gy, 0, none⟩ = some (.pointer (some ⟨gq, 0, none⟩)) ∧ W.cell? ⟨gy, 2, none⟩ = some (.int .u64 (s2.R : Nat)) ∧ W.cell? ⟨gy, 8, none⟩ = some (.int .i64 (s2.ent : Nat)) ∧ W.cell? ⟨gy, 9, none⟩ = some (.int .i64 (s2.ret : Nat))) ∧ W.cell? ⟨gq, 1, none⟩ = some (.slice V s2.q.length cV)) from
            ⟨⟨(HX6.out.on hb).cell (i := 0) rfl, (HX6.out.on hb).cell (i := 1) rfl, (HX6.out.on hb).cell (i := 2) rfl⟩, ⟨(HOB.out.on hb).cell (i := 0) rfl, (HOB.out.on hb).cell (i := 2) rfl, (HOB.out.on hb).cell (i := 8) rfl, (HOB.out.on hb).cell (i := 9) rfl⟩, (HBK.out.on hb).cell (i := 1) rfl⟩))
          have HKP := hide (gv_kept (HB6.out.on (Below.refl _ _).drew).m)
          have HSM := hide (fun m hm => Nat.le_trans (hsm m hm) (show 64 ≤ 9223372036854775807 by decide))
          have n1 : ((s2.ent : Int) != (s2.ent : Int)) = false := by simp
          have n2 : ((s2.ret : Int) != (s2.ret : Int)) = false := by simp
          have n3 : ((s2.R : Int) != (s2.R : Int)) = false := by simp
          clear hr hbk hov htx hsm
          go_region_held3 (fun W => (W.cell? ⟨w5.heap.size, 0, none⟩ = some (.int .i64 (s2.ent : Nat)) ∧ W.cell? ⟨w5.heap.size, 1, none⟩ = some (.int .i64 (s2.ret : Nat)) ∧ W.cell? ⟨w5.heap.size, 2, none⟩ = some (.int .u64 (s2.R : Nat))) ∧ (W.cell? ⟨gy, 0, none⟩ = some (.pointer (some ⟨gq, 0, none⟩)) ∧ W.cell? ⟨gy, 2, none⟩ = some (.int .u64 (s2.R : Nat)) ∧ W.cell? ⟨gy, 8, none⟩ = some (.int .i64 (s2.ent : Nat)) ∧ W.cell? ⟨gy, 9, none⟩ = some (.int .i64 (s2.ret : Nat))) ∧ W.cell? ⟨gq, 1, none⟩ = some (.slice V s2.q.length cV)) (first
              | exact HCY.out _ (below2 hb67 hb8 (Nat.le_refl _))
              | exact HCY.out _ hb67
              | exact HCY.out _ (Below.refl _ _).drew)
            ((first
              | (go_at_call 62; (with_reducible refine HKP.out.mono ?_); rintro e w7 ⟨A7, c7, vs7, rfl, ho7, ht7, hb7⟩; have hb67 := below2 (Below.refl w6.heap.size w6).drew hb7 (Nat.le_refl _))
              | (go_at_call 28; (with_reducible refine (sameAll_eqB (own_rd ho7) (HRV.out.on hb67) ht7.txs (HTX.out.on hb67) (by omega) HSM.out).mono ?_); rintro e w8 ⟨rfl, hb8⟩)))
          have HZ := hide (HB6.out.on (below2 hb67 hb8 (Nat.le_refl _)))
          clear ho7 ht7 hb7 hb8 hb67
          go_wp2
          go_roundw
          case rel => exact ⟨k + 1, by omega, by go_num, s2, F5, G5, HZ.out, HE2.out, HR2.out, HU2.out⟩
          case measure => simp [intOf]; omega
      · obtain rfl : k = l.length := by omega
        go_wp2_with fail
        refine (live28 _).mono ?_; rintro e w' ⟨rfl, hb⟩
        go_wp2
        go_ret
        exact ⟨rfl, below2 HB.out.bel hb (Nat.le_refl _)⟩
theorem walk_GiverDoes (w : World) (r : Int) (hr : Fit r) (D : Option Addr) (cd : Nat) (L : List Nat) (hd : InU w D cd L) (a : Option Addr) (c : Nat) (l : List (Int × Pk)) (hl : InA28 w a c l) :
    Calls Try.prog 10 #[.int .i64 r, .slice D L.length cd, .slice a l.length c] w fun e w' => e = .returned (.bool true) ∧ Below w.heap.size w w' := by
  by_cases h : r < 1 ∨ 16 < r
  · exact gdoes_bad r hd h hl
  · obtain ⟨R, rfl⟩ := Int.eq_ofNat_of_zero_le (show 0 ≤ r by omega)
    exact gdoes_in R (by omega) (by omega) hd hl
end Go.Proofs.Ytfcappddncnglaa
