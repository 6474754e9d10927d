/- Layer 19: the law QueueDoes, walked. No conditions. -/
import Derived.Test.YtfcappddncnglaaQueN
namespace Go.Proofs.Ytfcappddncnglaa
open Go.RowKit
set_option linter.unusedVariables false

theorem que_pushE {w : World} {B g room : Nat} {ms : List (List Nat)} {F : Nat → Prop} (h : Qu w B g room ms F) (A : Option Addr) (c : Nat) (m : List Nat) (hA : Rd w.heap.size w A (u8s m)) {n : Nat} (hn : n = pushE room ms m) :
    Calls Try.prog 21 #[.pointer (some ⟨g, 0, none⟩), .slice A m.length c] w fun e w' => ∃ F', e = .returned (.int .i64 (n : Nat)) ∧ Qu w' B g room (pushL room ms m) F' ∧ Turn F F' w w' := by
  subst hn; exact que_push h A c m hA
theorem rque_pushE {w : World} {B g room : Nat} {ms : List (List Nat)} {F : Nat → Prop} (h : RQu w B g room ms F) (A : Option Addr) (c : Nat) (m : List Nat) (hA : Rd w.heap.size w A (u8s m)) {n : Nat} (hn : n = pushE room ms m) :
    Calls Try.prog 22 #[.pointer (some ⟨g, 0, none⟩), .slice A m.length c] w fun e w' => ∃ F', e = .returned (.int .i64 (n : Nat)) ∧ RQu w' B g room (pushL room ms m) F' ∧ Turn F F' w w' := by
  subst hn; exact rque_push h A c m hA
theorem que_freeE {w : World} {B g room : Nat} {ms : List (List Nat)} {F : Nat → Prop} (h : Qu w B g room ms F) {n : Nat} (hn : n = room - ms.length) : Calls Try.prog 27 #[.pointer (some ⟨g, 0, none⟩)] w fun e w' => e = .returned (.int .i64 (n : Nat)) ∧ Below w.heap.size w w' := by
  subst hn; exact que_freeB h
theorem pushE_lt (R : Nat) (ms : List (List Nat)) (m : List Nat) : pushE R ms m < 4 := by
  unfold pushE
  split
  · omega
  · split <;> omega
set_option maxRecDepth 100000 in
theorem does_huge (r t : Int) {w : World} {a : Option Addr} {c : Nat} {l : List (Bool × List Nat)} (hr : r < 1 ∨ 16 < r) (hl : InA19 w a c l) :
    Calls Try.prog 3 #[.int .i64 r, .slice a l.length c, .int .i64 t] w fun e w' => e = .returned (.bool true) ∧ Below w.heap.size w w' := by
  have HH := hide (huge19 hl)
  have HN := hide (fun W => que_bad r hr W)
  have HM := hide (fun W => rque_bad r hr W)
  have hll : l.length ≤ 9223372036854775807 := Nat.le_trans hl.cap hl.max
  clear hl hr
  go_enter Try.func3, Try.ntmps3
  go_wp2_with fail
  refine HH.out.mono ?_; rintro e w' ⟨b, rfl, rfl, _⟩
  cases b
  · go_wp2_with fail
    refine (HN.out _).mono ?_; rintro e w' ⟨rfl, rfl⟩
    go_wp2_with fail
    refine (HM.out _).mono ?_; rintro e w' ⟨rfl, rfl⟩
    go_wp2_with fail
    refine (num19 _ _).mono ?_; rintro e w' ⟨rfl, rfl⟩
    go_wp2
    go_loop [11] (fun i => i = .int .i64 0) (fun _ => 0)
    case atStart => rfl
    case round =>
      subst hrel
      by_cases h0 : 0 < l.length
      · go_wp2_with fail
        refine (live19 _).mono ?_; rintro e w' ⟨rfl, hb⟩
        go_wp2
        go_ret
        exact ⟨rfl, hb⟩
      · go_wp2_with fail
        refine (live19 _).mono ?_; rintro e w' ⟨rfl, hb⟩
        go_wp2
        go_ret
        exact ⟨rfl, hb⟩
  · go_wp2_with fail
    refine (live19 _).mono ?_; rintro e w' ⟨rfl, hb⟩
    go_wp2
    go_ret
    exact ⟨rfl, hb⟩
set_option maxRecDepth 100000 in
set_option maxHeartbeats 8000000 in
theorem does_in (R : Nat) (t : Int) (hR : 1 ≤ R) (hR2 : R ≤ 16) {w : World} {a : Option Addr} {c : Nat} {l : List (Bool × List Nat)} (hl : InA19 w a c l) :
    Calls Try.prog 3 #[.int .i64 (R : Nat), .slice a l.length c, .int .i64 t] w fun e w' => e = .returned (.bool true) ∧ Below w.heap.size w w' := by
  have HH := hide (huge19 hl)
  have HN := hide (fun W => que_new (R : Int) (by omega) (by omega) W)
  have HM := hide (fun W => rque_new (R : Int) (by omega) (by omega) W)
  rw [Int.toNat_natCast] at HN HM
  have HL := hide hl
  have HR2 := hide hR2
  have hll : l.length ≤ 9223372036854775807 := Nat.le_trans hl.cap hl.max
  clear hl hR hR2
  go_enter Try.func3, Try.ntmps3
  go_wp2_with fail
  refine HH.out.mono ?_; rintro e w' ⟨b, rfl, rfl, hsm⟩
  have HSM := hide hsm
  clear hsm HH
  cases b
  case true =>
    go_wp2_with fail
    refine (live19 _).mono ?_; rintro e w' ⟨rfl, hb⟩
    go_wp2
    go_ret
    exact ⟨rfl, hb⟩
  case false =>
    have hl100 : l.length ≤ 100 := (HSM.out rfl).1
    go_wp2_with fail
    refine (HN.out _).mono ?_; rintro e w1 ⟨g, F0, rfl, hq0, hb0⟩
    have HQ0 := hide hq0
    have HB0 := hide hb0
    clear hq0 hb0
    go_wp2_with fail
    refine (HM.out _).mono ?_; rintro e w2 ⟨gr, G0, rfl, hr0, hb2⟩
    have HBO : Hid (Both w w2 w1.heap.size g gr R [] F0 G0) := ⟨HQ0.out.on hb2, hr0, Off.new HQ0.out.1 hr0.1 (Nat.le_refl _), HB0.out.size, below2 HB0.out hb2 (Nat.le_refl _)⟩
    clear hr0 hb2
    go_wp2_with fail
    refine (num19 _ _).mono ?_; rintro e w' ⟨rfl, rfl⟩
    go_wp2
    go_loopw [11] (fun i wr => ∃ k : Nat, k ≤ l.length ∧ i = .int .i64 k ∧ Hid (∃ ms F G, Both w wr w1.heap.size g gr R ms F G)) (fun i _ => l.length - (intOf i).toNat)
    case atStart => exact ⟨0, Nat.zero_le _, rfl, [], F0, G0, HBO.out⟩
    case round =>
      obtain ⟨k, hk, rfl, hrel⟩ := hrel
      obtain ⟨ms, F, G, hbo⟩ := hrel.out
      have HB := hide hbo
      clear hrel hbo
      by_cases hlt : k < l.length
      · obtain ⟨⟨p, m⟩, hpm⟩ : ∃ x, l[k]? = some x := ⟨_, List.getElem?_eq_getElem hlt⟩
        obtain ⟨b, o, u, rfl, hbl, h1, h2, hfb⟩ := HL.out.rd k p m hpm
        have c1 := (HB.out.bel.cell (p := ⟨b, o + k * 2, none⟩) hbl).trans h1
        have c2 := (HB.out.bel.cell (p := ⟨b, o + k * 2 + 1, none⟩) hbl).trans h2
        obtain ⟨A, cA, rfl, hA, hrest⟩ := hfb
        have HA := hide hA
        have HBL := hide hbl
        have g0 : (0 : Int) ≤ (k : Int) := by omega
        have g3 : (k : Int) < (l.length : Int) := by omega
        have HC2 := hide h2
        clear h1 h2 hA hrest hpm hbl
        cases p
        case true =>
          have h64 := getAt_len HB.out.q.2.2.2.1 0
          have HP := hide (que_popV HB.out.q)
          obtain ⟨f, hf⟩ : ∃ f, f = (getAt ms 0).getD [] := ⟨_, rfl⟩
          obtain ⟨bb, hbb⟩ : ∃ b, b = (getAt ms 0).isSome := ⟨_, rfl⟩
          rw [← hf] at h64 HP
          rw [← hbb] at HP
          have HF := hide hf
          have HBB := hide hbb
          have H64 := hide h64
          have hne : (bb != bb) = false := by simp
          clear c2 hf hbb h64 g0 g3
          go_wp2_with fail
          refine HP.out.mono ?_; rintro e w3 ⟨X, cx, rfl, hox, hq3, ht3⟩
          have HP2 := hide (rque_popV (HB.out.mid ht3))
          rw [← HF.out, ← HBB.out] at HP2
          have HQ3 := hide hq3
          have HT3 := hide ht3
          have HOX := hide hox
          clear hox hq3 ht3 HP
          go_wp2_with fail
          refine HP2.out.mono ?_; rintro e w4 ⟨Y, cy, G', rfl, hry, hr4, ht4⟩
          have HB4 := hide (HB.out.step HT3.out HQ3.out ht4 hr4)
          have HXX := hide (own_rd (HB.out.own HOX.out ht4))
          have HYY := hide hry
          clear hry hr4 ht4 HP2
          go_wp2_with fail
          refine (same_eq HXX.out HYY.out (by have := H64.out; omega)).mono ?_; rintro e wx ⟨rfl, hbx⟩
          have HX := hide (HB4.out.on hbx)
          clear hbx
          clear c1 hne
          go_wp2_with fail
          obtain ⟨ns, hns⟩ : ∃ l, l = ms.tail := ⟨_, rfl⟩
          rw [← hns] at HX
          have HF1 := hide (getAt_len HX.out.q.2.2.2.1 0)
          have HF2 := hide (getAt_len HX.out.q.2.2.2.1 t)
          have HA1 := hide (que_frontV HX.out.q)
          obtain ⟨f1, hf1⟩ : ∃ f, f = (getAt ns 0).getD [] := ⟨_, rfl⟩
          obtain ⟨b1, hb1⟩ : ∃ b, b = (getAt ns 0).isSome := ⟨_, rfl⟩
          obtain ⟨f2, hf2⟩ : ∃ f, f = (getAt ns t).getD [] := ⟨_, rfl⟩
          obtain ⟨b2, hb2⟩ : ∃ b, b = (getAt ns t).isSome := ⟨_, rfl⟩
          rw [← hf1] at HF1
          rw [← hf2] at HF2
          rw [← hf1, ← hb1] at HA1
          have E1 := hide (And.intro hf1 hb1)
          have E2 := hide (And.intro hf2 hb2)
          clear hf1 hb1 hf2 hb2 hns
          refine HA1.out.mono ?_; rintro e y1 ⟨X1, d1, rfl, hx1, hy1⟩
          have HX1 := hide (HX.out.on hy1)
          have HRX1 := hide hx1
          have HA2 := hide (rque_atV HX1.out.r 0)
          rw [← E1.out.1, ← E1.out.2] at HA2
          clear hx1 hy1 HA1
          go_wp2_with fail
          refine HA2.out.mono ?_; rintro e y2 ⟨Y1, d2, rfl, hx2, hy2⟩
          have HX2 := hide (HX1.out.on hy2)
          have HRX2 := hide (HRX1.out.on hy2)
          have HRY2 := hide hx2
          have HA3 := hide (que_atV HX2.out.q t)
          rw [← E2.out.1, ← E2.out.2] at HA3
          clear hx2 hy2 HA2 HX1 HRX1
          go_wp2_with fail
          refine HA3.out.mono ?_; rintro e y3 ⟨X2, d3, rfl, hx3, hy3⟩
          have HX3 := hide (HX2.out.on hy3)
          have HRX3 := hide (HRX2.out.on hy3)
          have HRY3 := hide (HRY2.out.on hy3)
          have HRZ3 := hide hx3
          have HA4 := hide (rque_atV HX3.out.r t)
          rw [← E2.out.1, ← E2.out.2] at HA4
          clear hx3 hy3 HA3 HX2 HRX2 HRY2
          go_wp2_with fail
          refine HA4.out.mono ?_; rintro e y4 ⟨Y2, d4, rfl, hx4, hy4⟩
          have HX4 := hide ((HX3.out.on hy4).on (Below.refl _ _).drew)
          have HRX4 : Hid (Rd y4.drew.heap.size y4.drew X1 (u8s f1)) := (HRX3.out.on hy4).drew
          have HRY4 : Hid (Rd y4.drew.heap.size y4.drew Y1 (u8s f1)) := (HRY3.out.on hy4).drew
          have HRZ4 : Hid (Rd y4.drew.heap.size y4.drew X2 (u8s f2)) := (HRZ3.out.on hy4).drew
          have HRW4 : Hid (Rd y4.drew.heap.size y4.drew Y2 (u8s f2)) := hx4
          clear hx4 hy4 HA4 HX3 HRX3 HRY3 HRZ3
          obtain ⟨V, cV, vs, hbk, hov, htx⟩ : ∃ V cV vs, Blk y4.drew gr 45 [.int .i64 (R : Nat), .slice V ns.length cV] ∧ Rd y4.drew.heap.size y4.drew V vs ∧ Txs y4.drew vs ns := by
            obtain ⟨_, _, _, _, V, cV, vs, hb, ho, _, ht, _⟩ := HX4.out.r
            exact ⟨V, cV, vs, hb, own_rd ho, ht⟩
          have HC1 : Hid (y4.drew.cell? ⟨gr, 1, none⟩ = some (.slice V ns.length cV)) := hbk.cell rfl
          have HC0' : Hid (y4.drew.cell? ⟨gr, 0, none⟩ = some (.int .i64 (R : Nat))) := hbk.cell rfl
          have r1 : y4.cell? ⟨gr, 1, none⟩ = some (.slice V ns.length cV) := hbk.cell rfl
          have r0 : y4.cell? ⟨gr, 0, none⟩ = some (.int .i64 (R : Nat)) := hbk.cell rfl
          have HGR := hide hbk.lt
          have HOV := hide hov
          have HTX := hide htx
          obtain ⟨fr, hfr⟩ : ∃ z, z = R - ns.length := ⟨_, rfl⟩
          have HFR := hide hfr
          have hw1 : IntKind.i64.wrap ((R : Int) - (ns.length : Int)) = (fr : Int) := by have := HX4.out.q.2.2.1; rw [IntKind.wrap_i64]; omega
          have n1 : (b1 != b1) = false := by simp
          have n2 : (b2 != b2) = false := by simp
          have n3 : ((ns.length : Int) != (ns.length : Int)) = false := by simp
          have n4 : ((fr : Int) != (fr : Int)) = false := by simp
          have HNL := hide (show ns.length ≤ 9223372036854775807 by have := HX4.out.q.2.2.1; omega)
          have HNM := hide (show ∀ x ∈ ns, x.length ≤ 9223372036854775807 from fun x hx => by have := HX4.out.q.2.2.2.1 x hx; omega)
          have HF1L := hide (show f1.length ≤ 9223372036854775807 by have := HF1.out; omega)
          have HF2L := hide (show f2.length ≤ 9223372036854775807 by have := HF2.out; omega)
          clear hbk hov htx hfr
          go_wp2
          go_region_held3 (fun w' => w'.cell? ⟨gr, 1, none⟩ = some (.slice V ns.length cV) ∧ w'.cell? ⟨gr, 0, none⟩ = some (.int .i64 (R : Nat))) (first
              | exact keep2 (below2 (below2 (below2 (below2 hz1 hz2 (Nat.le_refl _)) hz3 (Nat.le_refl _)) hz4 (Nat.le_refl _)) hz5 (Nat.le_refl _)) HGR.out HGR.out HC1.out HC0'.out
              | exact keep2 (below2 (below2 (below2 hz1 hz2 (Nat.le_refl _)) hz3 (Nat.le_refl _)) hz4 (Nat.le_refl _)) HGR.out HGR.out HC1.out HC0'.out
              | exact keep2 (below2 (below2 hz1 hz2 (Nat.le_refl _)) hz3 (Nat.le_refl _)) HGR.out HGR.out HC1.out HC0'.out
              | exact keep2 (below2 hz1 hz2 (Nat.le_refl _)) HGR.out HGR.out HC1.out HC0'.out
              | exact keep2 hz1 HGR.out HGR.out HC1.out HC0'.out
              | go_keep)
            ((first
              | (go_at_call 28; (with_reducible refine (sameAll_eqB (own_rd ho4) (HOV.out.on (below2 (below2 (below2 hz1 hz2 (Nat.le_refl _)) hz3 (Nat.le_refl _)) hz4 (Nat.le_refl _))) ht4.txs (HTX.out.on (below2 (below2 (below2 hz1 hz2 (Nat.le_refl _)) hz3 (Nat.le_refl _)) hz4 (Nat.le_refl _))) HNL.out HNM.out).mono ?_); rintro e z5 ⟨rfl, hz5⟩)
              | (go_at_call 29; (with_reducible refine (que_all (HX4.out.q.on (below2 (below2 hz1 hz2 (Nat.le_refl _)) hz3 (Nat.le_refl _)))).mono ?_); rintro e z4 ⟨A4, c4, vs4, rfl, ho4, ht4, hz4⟩)
              | (go_at_call 27; (with_reducible refine (que_freeE (HX4.out.q.on (below2 hz1 hz2 (Nat.le_refl _))) HFR.out).mono ?_); rintro e z3 ⟨rfl, hz3⟩)
              | (go_at_call 26; (with_reducible refine (que_len (HX4.out.q.on (below2 hz1 hz2 (Nat.le_refl _)))).mono ?_); rintro e w' ⟨rfl, rfl⟩)
              | (go_at_call 20; (with_reducible refine (same_eq HRX4.out HRY4.out HF1L.out).mono ?_); rintro e z1 ⟨rfl, hz1⟩)
              | (go_at_call 20; (with_reducible refine (same_eq (HRZ4.out.on hz1) (HRW4.out.on hz1) HF2L.out).mono ?_); rintro e z2 ⟨rfl, hz2⟩)))
          go_wp2
          go_roundw
          case rel => exact ⟨k + 1, by omega, by go_num, ns, _, _, HX4.out.on (below2 (below2 (below2 (below2 hz1 hz2 (Nat.le_refl _)) hz3 (Nat.le_refl _)) hz4 (Nat.le_refl _)) hz5 (Nat.le_refl _))⟩
          case measure => simp [intOf]; omega
        case false =>
          have HBD := hide (HB.out.on (Below.refl _ _).drew)
          have HPU := hide (fun n hn => que_pushE (w := wr.drew) (n := n) HBD.out.q A cA m ((HA.out.below HBD.out.bel (Nat.le_refl _)).more HBD.out.bel.size) hn)
          have HFT := hide HBD.out.q.1
          have hpl := pushE_lt R ms m
          obtain ⟨nE, hnE⟩ : ∃ n, n = pushE R ms m := ⟨_, rfl⟩
          rw [← hnE] at hpl
          have HNE := hide hnE
          have hne : ((nE : Int) != (nE : Int)) = false := by simp
          have HC0 : Hid (w.cell? ⟨b, o + k * 2 + 1, none⟩ = some (.slice A m.length cA)) := HC2.out
          clear hnE
          go_wp2
          go_region_held3 (fun w' => w'.cell? ⟨b, o + k * 2 + 1, none⟩ = some (.slice A m.length cA)) (first
              | exact ((HBD.out.step ht3 hq3 ht4 hr4).bel.cell (p := ⟨b, o + k * 2 + 1, none⟩) HBL.out).trans HC0.out
              | exact ((ht3.below HBD.out.bel HFT.out HBD.out.bel.size).cell (p := ⟨b, o + k * 2 + 1, none⟩) HBL.out).trans HC0.out
              | go_keep)
            ((first
              | (go_at_call 21; (with_reducible refine (HPU.out nE HNE.out).mono ?_); rintro e w3 ⟨F', rfl, hq3, ht3⟩)
              | (go_at_call 17; (with_reducible refine (num19 _ _).mono ?_); rintro e w' ⟨rfl, rfl⟩)
              | (go_at_call 22; (with_reducible refine (rque_pushE (HBD.out.mid ht3) A cA m ((HA.out.below (ht3.below HBD.out.bel HFT.out HBD.out.bel.size) (Nat.le_refl _)).more (ht3.below HBD.out.bel HFT.out HBD.out.bel.size).size) HNE.out).mono ?_); rintro e w4 ⟨G', rfl, hr4, ht4⟩)))
          have HX := hide (HBD.out.step ht3 hq3 ht4 hr4)
          clear ht3 hq3 ht4 hr4 c1 c2 hne hpl g0 g3 HPU
          go_wp2_with fail
          obtain ⟨ns, hns⟩ : ∃ l, l = pushL R ms m := ⟨_, rfl⟩
          rw [← hns] at HX
          have HF1 := hide (getAt_len HX.out.q.2.2.2.1 0)
          have HF2 := hide (getAt_len HX.out.q.2.2.2.1 t)
          have HA1 := hide (que_frontV HX.out.q)
          obtain ⟨f1, hf1⟩ : ∃ f, f = (getAt ns 0).getD [] := ⟨_, rfl⟩
          obtain ⟨b1, hb1⟩ : ∃ b, b = (getAt ns 0).isSome := ⟨_, rfl⟩
          obtain ⟨f2, hf2⟩ : ∃ f, f = (getAt ns t).getD [] := ⟨_, rfl⟩
          obtain ⟨b2, hb2⟩ : ∃ b, b = (getAt ns t).isSome := ⟨_, rfl⟩
          rw [← hf1] at HF1
          rw [← hf2] at HF2
          rw [← hf1, ← hb1] at HA1
          have E1 := hide (And.intro hf1 hb1)
          have E2 := hide (And.intro hf2 hb2)
          clear hf1 hb1 hf2 hb2 hns
          refine HA1.out.mono ?_; rintro e y1 ⟨X1, d1, rfl, hx1, hy1⟩
          have HX1 := hide (HX.out.on hy1)
          have HRX1 := hide hx1
          have HA2 := hide (rque_atV HX1.out.r 0)
          rw [← E1.out.1, ← E1.out.2] at HA2
          clear hx1 hy1 HA1
          go_wp2_with fail
          refine HA2.out.mono ?_; rintro e y2 ⟨Y1, d2, rfl, hx2, hy2⟩
          have HX2 := hide (HX1.out.on hy2)
          have HRX2 := hide (HRX1.out.on hy2)
          have HRY2 := hide hx2
          have HA3 := hide (que_atV HX2.out.q t)
          rw [← E2.out.1, ← E2.out.2] at HA3
          clear hx2 hy2 HA2 HX1 HRX1
          go_wp2_with fail
          refine HA3.out.mono ?_; rintro e y3 ⟨X2, d3, rfl, hx3, hy3⟩
          have HX3 := hide (HX2.out.on hy3)
          have HRX3 := hide (HRX2.out.on hy3)
          have HRY3 := hide (HRY2.out.on hy3)
          have HRZ3 := hide hx3
          have HA4 := hide (rque_atV HX3.out.r t)
          rw [← E2.out.1, ← E2.out.2] at HA4
          clear hx3 hy3 HA3 HX2 HRX2 HRY2
          go_wp2_with fail
          refine HA4.out.mono ?_; rintro e y4 ⟨Y2, d4, rfl, hx4, hy4⟩
          have HX4 := hide ((HX3.out.on hy4).on (Below.refl _ _).drew)
          have HRX4 : Hid (Rd y4.drew.heap.size y4.drew X1 (u8s f1)) := (HRX3.out.on hy4).drew
          have HRY4 : Hid (Rd y4.drew.heap.size y4.drew Y1 (u8s f1)) := (HRY3.out.on hy4).drew
          have HRZ4 : Hid (Rd y4.drew.heap.size y4.drew X2 (u8s f2)) := (HRZ3.out.on hy4).drew
          have HRW4 : Hid (Rd y4.drew.heap.size y4.drew Y2 (u8s f2)) := hx4
          clear hx4 hy4 HA4 HX3 HRX3 HRY3 HRZ3
          obtain ⟨V, cV, vs, hbk, hov, htx⟩ : ∃ V cV vs, Blk y4.drew gr 45 [.int .i64 (R : Nat), .slice V ns.length cV] ∧ Rd y4.drew.heap.size y4.drew V vs ∧ Txs y4.drew vs ns := by
            obtain ⟨_, _, _, _, V, cV, vs, hb, ho, _, ht, _⟩ := HX4.out.r
            exact ⟨V, cV, vs, hb, own_rd ho, ht⟩
          have HC1 : Hid (y4.drew.cell? ⟨gr, 1, none⟩ = some (.slice V ns.length cV)) := hbk.cell rfl
          have HC0' : Hid (y4.drew.cell? ⟨gr, 0, none⟩ = some (.int .i64 (R : Nat))) := hbk.cell rfl
          have r1 : y4.cell? ⟨gr, 1, none⟩ = some (.slice V ns.length cV) := hbk.cell rfl
          have r0 : y4.cell? ⟨gr, 0, none⟩ = some (.int .i64 (R : Nat)) := hbk.cell rfl
          have HGR := hide hbk.lt
          have HOV := hide hov
          have HTX := hide htx
          obtain ⟨fr, hfr⟩ : ∃ z, z = R - ns.length := ⟨_, rfl⟩
          have HFR := hide hfr
          have hw1 : IntKind.i64.wrap ((R : Int) - (ns.length : Int)) = (fr : Int) := by have := HX4.out.q.2.2.1; rw [IntKind.wrap_i64]; omega
          have n1 : (b1 != b1) = false := by simp
          have n2 : (b2 != b2) = false := by simp
          have n3 : ((ns.length : Int) != (ns.length : Int)) = false := by simp
          have n4 : ((fr : Int) != (fr : Int)) = false := by simp
          have HNL := hide (show ns.length ≤ 9223372036854775807 by have := HX4.out.q.2.2.1; omega)
          have HNM := hide (show ∀ x ∈ ns, x.length ≤ 9223372036854775807 from fun x hx => by have := HX4.out.q.2.2.2.1 x hx; omega)
          have HF1L := hide (show f1.length ≤ 9223372036854775807 by have := HF1.out; omega)
          have HF2L := hide (show f2.length ≤ 9223372036854775807 by have := HF2.out; omega)
          clear hbk hov htx hfr
          go_wp2
          go_region_held3 (fun w' => w'.cell? ⟨gr, 1, none⟩ = some (.slice V ns.length cV) ∧ w'.cell? ⟨gr, 0, none⟩ = some (.int .i64 (R : Nat))) (first
              | exact keep2 (below2 (below2 (below2 (below2 hz1 hz2 (Nat.le_refl _)) hz3 (Nat.le_refl _)) hz4 (Nat.le_refl _)) hz5 (Nat.le_refl _)) HGR.out HGR.out HC1.out HC0'.out
              | exact keep2 (below2 (below2 (below2 hz1 hz2 (Nat.le_refl _)) hz3 (Nat.le_refl _)) hz4 (Nat.le_refl _)) HGR.out HGR.out HC1.out HC0'.out
              | exact keep2 (below2 (below2 hz1 hz2 (Nat.le_refl _)) hz3 (Nat.le_refl _)) HGR.out HGR.out HC1.out HC0'.out
              | exact keep2 (below2 hz1 hz2 (Nat.le_refl _)) HGR.out HGR.out HC1.out HC0'.out
              | exact keep2 hz1 HGR.out HGR.out HC1.out HC0'.out
              | go_keep)
            ((first
              | (go_at_call 28; (with_reducible refine (sameAll_eqB (own_rd ho4) (HOV.out.on (below2 (below2 (below2 hz1 hz2 (Nat.le_refl _)) hz3 (Nat.le_refl _)) hz4 (Nat.le_refl _))) ht4.txs (HTX.out.on (below2 (below2 (below2 hz1 hz2 (Nat.le_refl _)) hz3 (Nat.le_refl _)) hz4 (Nat.le_refl _))) HNL.out HNM.out).mono ?_); rintro e z5 ⟨rfl, hz5⟩)
              | (go_at_call 29; (with_reducible refine (que_all (HX4.out.q.on (below2 (below2 hz1 hz2 (Nat.le_refl _)) hz3 (Nat.le_refl _)))).mono ?_); rintro e z4 ⟨A4, c4, vs4, rfl, ho4, ht4, hz4⟩)
              | (go_at_call 27; (with_reducible refine (que_freeE (HX4.out.q.on (below2 hz1 hz2 (Nat.le_refl _))) HFR.out).mono ?_); rintro e z3 ⟨rfl, hz3⟩)
              | (go_at_call 26; (with_reducible refine (que_len (HX4.out.q.on (below2 hz1 hz2 (Nat.le_refl _)))).mono ?_); rintro e w' ⟨rfl, rfl⟩)
              | (go_at_call 20; (with_reducible refine (same_eq HRX4.out HRY4.out HF1L.out).mono ?_); rintro e z1 ⟨rfl, hz1⟩)
              | (go_at_call 20; (with_reducible refine (same_eq (HRZ4.out.on hz1) (HRW4.out.on hz1) HF2L.out).mono ?_); rintro e z2 ⟨rfl, hz2⟩)))
          go_wp2
          go_roundw
          case rel => exact ⟨k + 1, by omega, by go_num, ns, _, _, HX4.out.on (below2 (below2 (below2 (below2 hz1 hz2 (Nat.le_refl _)) hz3 (Nat.le_refl _)) hz4 (Nat.le_refl _)) hz5 (Nat.le_refl _))⟩
          case measure => simp [intOf]; omega
      · obtain rfl : k = l.length := by omega
        go_wp2_with fail
        refine (live19 _).mono ?_; rintro e w5 ⟨rfl, hb5⟩
        go_wp2
        go_ret
        exact ⟨rfl, below2 HB.out.bel hb5 (Nat.le_refl _)⟩
theorem walk_QueueDoes (w : World) (r : Int) (hr : Fit r) (a : Option Addr) (c : Nat) (l : List (Bool × List Nat)) (hl : InA19 w a c l) (t : Int) (ht : Fit t) :
    Calls Try.prog 3 #[.int .i64 r, .slice a l.length c, .int .i64 t] w fun e w' => e = .returned (.bool true) ∧ Below w.heap.size w w' := by
  by_cases h : r < 1 ∨ 16 < r
  · exact does_huge r t h hl
  · obtain ⟨R, rfl⟩ := Int.eq_ofNat_of_zero_le (show 0 ≤ r by omega)
    exact does_in R t (by omega) (by omega) hl
end Go.Proofs.Ytfcappddncnglaa
