/- Layer 40: the law MuxDoes, walked. No conditions. -/
import Derived.Test.YtfcappddncnglaaMuxL
import Derived.Test.YtfcappddncnglaaInM2
namespace Go.Proofs.Ytfcappddncnglaa
open Go.RowKit
set_option linter.unusedVariables false

theorem mux_lenOut {w : World} {B gx room next : Nat} {Q : Nat → List (List Nat)} {F : Nat → Prop} (h : Mx w B gx room Q next F) (p : Int) (hp : ¬ (0 ≤ p ∧ p < 8)) :
    Calls Try.prog 36 #[.pointer (some ⟨gx, 0, none⟩), .int .i64 p] w fun e w' => e = .returned (.int .i64 0) ∧ w = w' := by
  have := mux_len h p
  rw [if_neg hp] at this
  exact this
theorem small_take {R : Nat} {Q : Nat → List (List Nat)} (h : SmallQ Q) (b : List Nat) : SmallQ (takeQ R Q b) := by
  unfold takeQ
  cases hok : getOk b with
  | true =>
    rw [if_pos rfl]
    have hp := getP_lt hok
    have hm : (getM b).length ≤ 63 := by
      unfold getM; rw [hok]
      cases b with
      | nil => simp
      | cons x t =>
        have : decide (x < 8 ∧ t.length ≤ 63) = true := hok
        exact (of_decide_eq_true this).2
    refine upd_small h ?_
    intro x hx
    have ho := h (getP b) hp
    unfold pushL at hx
    split at hx
    · exact ho x hx
    · split at hx
      · exact ho x hx
      · rcases List.mem_append.1 hx with e | e
        · exact ho x e
        · simp at e; subst e; exact hm
  | false => rw [if_neg (by simp)]; exact h
theorem small_pop {Q : Nat → List (List Nat)} (h : SmallQ Q) (p : Int) : SmallQ (mpopQ Q p) := by
  unfold mpopQ
  split
  · exact upd_small h fun m hm => h p.toNat (by omega) m (List.mem_of_mem_tail hm)
  · exact h
theorem popF_len {Q : Nat → List (List Nat)} (h : SmallQ Q) (p : Int) : (mpopF Q p).length ≤ 64 := by
  unfold mpopF
  split
  · refine getAt_len (fun m hm => ?_) 0
    have := h p.toNat (by omega) m hm; omega
  · simp
theorem tellF_len {Q : Nat → List (List Nat)} (h : SmallQ Q) (n : Nat) : (tellF Q n).length ≤ 64 := by
  unfold tellF
  cases hno : nextOf Q n with
  | none => simp
  | some p =>
    have := h p (next_some hno).1
    cases hQ : Q p with
    | nil => simp [hQ]
    | cons m ms => rw [hQ] at this; have := this m (by simp); simp [hQ]; omega
/-- both muxes, off one another. -/
structure BothM (w0 w : World) (B2 gx gy R : Nat) (Q : Nat → List (List Nat)) (next : Nat) (F G : Nat → Prop) : Prop where
  m : Mx w w0.heap.size gx R Q next F
  r : RMx w B2 gy R Q next G
  off : Off F G
  lo : w0.heap.size ≤ B2
  bel : Below w0.heap.size w0 w
  small : SmallQ Q
section
variable {w0 w w1 w2 : World} {B2 gx gy R next n' : Nat} {Q Q' : Nat → List (List Nat)} {F F' G G' : Nat → Prop}
theorem BothM.on (h : BothM w0 w B2 gx gy R Q next F G) (hb : Below w.heap.size w w2) : BothM w0 w2 B2 gx gy R Q next F G := ⟨h.m.on hb, h.r.on hb, h.off, h.lo, below2 h.bel hb (Nat.le_refl _), h.small⟩
theorem BothM.mid (h : BothM w0 w B2 gx gy R Q next F G) (ht : Turn F F' w w1) : RMx w1 B2 gy R Q next G := h.r.kept (ht.kept h.off h.r.foot) ht.size
theorem BothM.bel1 (h : BothM w0 w B2 gx gy R Q next F G) (ht : Turn F F' w w1) : Below w0.heap.size w0 w1 := ht.below h.bel h.m.foot h.bel.size
theorem BothM.step (h : BothM w0 w B2 gx gy R Q next F G) (ht : Turn F F' w w1) (hm : Mx w1 w0.heap.size gx R Q' n' F') (ht2 : Turn G G' w1 w2) (hr : RMx w2 B2 gy R Q' n' G') (hs : SmallQ Q') : BothM w0 w2 B2 gx gy R Q' n' F' G' := by
  have o1 : Off F' G := ht.off h.off h.r.foot
  have r1 := h.mid ht
  have o2 : Off G' F' := ht2.off o1.symm hm.foot
  exact ⟨hm.kept (ht2.kept o1.symm hm.foot) ht2.size, hr, o2.symm, h.lo, ht2.below (h.bel1 ht) (r1.foot.down h.lo) (Nat.le_trans h.bel.size ht.size), hs⟩
theorem BothM.own {v : Value} {n : Nat} {xs : List Value} (h : BothM w0 w B2 gx gy R Q next F G) (ho : w1.ownsRow w.heap.size 5 1 v n xs) (ht2 : Turn G G' w1 w2) : w2.ownsRow w.heap.size 5 1 v n xs :=
  own_keep ho fun k hk => ht2.block k (own_block_lt ho hk).2 fun hg => by have := (h.r.foot k hg).2; have := (own_block_lt ho hk).1; omega
end
theorem mux_pushE {w : World} {B gx room next : Nat} {Q : Nat → List (List Nat)} {F : Nat → Prop} (h : Mx w B gx room Q next F) (p : Int) (A : Option Addr) (c : Nat) (m : List Nat) (hA : Rd w.heap.size w A (u8s m)) {n : Nat} (hn : n = mpushE room Q p m) :
    Calls Try.prog 35 #[.pointer (some ⟨gx, 0, none⟩), .int .i64 p, .slice A m.length c] w fun e w' => ∃ F', e = .returned (.int .i64 (n : Nat)) ∧ Mx w' B gx room (mpushL room Q p m) next F' ∧ Turn F F' w w' := by subst hn; exact mux_push h p A c m hA
theorem rmux_pushE {w : World} {B gx room next : Nat} {Q : Nat → List (List Nat)} {F : Nat → Prop} (h : RMx w B gx room Q next F) (p : Int) (A : Option Addr) (c : Nat) (m : List Nat) (hA : Rd w.heap.size w A (u8s m)) {n : Nat} (hn : n = mpushE room Q p m) :
    Calls Try.prog 43 #[.pointer (some ⟨gx, 0, none⟩), .int .i64 p, .slice A m.length c] w fun e w' => ∃ F', e = .returned (.int .i64 (n : Nat)) ∧ RMx w' B gx room (mpushL room Q p m) next F' ∧ Turn F F' w w' := by subst hn; exact rmux_push h p A c m hA
theorem mux_takeE {w : World} {B gx room next : Nat} {Q : Nat → List (List Nat)} {F : Nat → Prop} (h : Mx w B gx room Q next F) (A : Option Addr) (c : Nat) (l : List Nat) (hcap : l.length ≤ c) (hl : l.length ≤ 140737488355328) (hby : Byt l) (hA : Rd w.heap.size w A (u8s l)) {n : Nat} (hn : n = takeE room Q l) :
    Calls Try.prog 45 #[.pointer (some ⟨gx, 0, none⟩), .slice A l.length c] w fun e w' => ∃ F', e = .returned (.int .i64 (n : Nat)) ∧ Mx w' B gx room (takeQ room Q l) next F' ∧ Turn F F' w w' := by subst hn; exact mux_take h A c l hcap hl hby hA
theorem rmux_takeE {w : World} {B gx room next : Nat} {Q : Nat → List (List Nat)} {F : Nat → Prop} (h : RMx w B gx room Q next F) (A : Option Addr) (c : Nat) (l : List Nat) (hcap : l.length ≤ c) (hl : l.length ≤ 140737488355328) (hby : Byt l) (hA : Rd w.heap.size w A (u8s l)) {n : Nat} (hn : n = takeE room Q l) :
    Calls Try.prog 46 #[.pointer (some ⟨gx, 0, none⟩), .slice A l.length c] w fun e w' => ∃ F', e = .returned (.int .i64 (n : Nat)) ∧ RMx w' B gx room (takeQ room Q l) next F' ∧ Turn F F' w w' := by subst hn; exact rmux_take h A c l hcap hl hby hA
set_option maxRecDepth 100000 in
theorem mdoes_bad (r : Int) {w : World} {a : Option Addr} {c : Nat} {l : List (Int × Int × List Nat)} (hr : r < 1 ∨ 16 < r) (hl : InA40 w a c l) :
    Calls Try.prog 8 #[.int .i64 r, .slice a l.length c] w fun e w' => e = .returned (.bool true) ∧ Below w.heap.size w w' := by
  have HH := hide (huge40 hl)
  have HN := hide (fun W => mux_bad r hr W)
  have HM := hide (fun W => rmux_bad r hr W)
  have hll : l.length ≤ 9223372036854775807 := Nat.le_trans hl.cap hl.max
  clear hl hr
  go_enter Try.func8, Try.ntmps8
  go_wp2_with fail
  refine HH.out.mono ?_; rintro e w' ⟨b, rfl, rfl, _⟩
  cases b
  · go_wp2_with fail
    refine (HN.out _).mono ?_; rintro e w1 ⟨rfl, hb1⟩
    go_wp2_with fail
    refine (HM.out _).mono ?_; rintro e w2 ⟨rfl, hb2⟩
    go_wp2_with fail
    refine (num40 _ _).mono ?_; rintro e w' ⟨rfl, rfl⟩
    have HB := hide (below2 hb1 hb2 (Nat.le_refl _))
    clear hb1 hb2
    go_wp2
    go_loop [9] (fun i => i = .int .i64 0) (fun _ => 0)
    case atStart => rfl
    case round =>
      subst hrel
      by_cases h0 : 0 < l.length
      · go_wp2_with fail
        refine (live40 _).mono ?_; rintro e w' ⟨rfl, hb⟩
        go_wp2
        go_ret
        exact ⟨rfl, below2 HB.out hb (Nat.le_refl _)⟩
      · go_wp2_with fail
        refine (live40 _).mono ?_; rintro e w' ⟨rfl, hb⟩
        go_wp2
        go_ret
        exact ⟨rfl, below2 HB.out hb (Nat.le_refl _)⟩
  · go_wp2_with fail
    refine (live40 _).mono ?_; rintro e w' ⟨rfl, hb⟩
    go_wp2
    go_ret
    exact ⟨rfl, hb⟩
set_option maxRecDepth 100000 in
set_option maxHeartbeats 8000000 in
theorem mdoes_in (R : Nat) (hR : 1 ≤ R) (hR2 : R ≤ 16) {w : World} {a : Option Addr} {c : Nat} {l : List (Int × Int × List Nat)} (hlc : InA40c w a c l) :
    Calls Try.prog 8 #[.int .i64 (R : Nat), .slice a l.length c] w fun e w' => e = .returned (.bool true) ∧ Below w.heap.size w w' := by
  have hl := hlc.base
  have HCP := hide hlc.caps
  have HH := hide (huge40 hl)
  have HN := hide (fun W => mux_new R hR hR2 W)
  have HM := hide (fun W => rmux_new R hR hR2 W)
  have HL := hide hl
  have hll : l.length ≤ 9223372036854775807 := Nat.le_trans hl.cap hl.max
  clear hl hlc hR hR2
  go_enter Try.func8, Try.ntmps8
  go_wp2_with fail
  refine HH.out.mono ?_; rintro e w' ⟨b, rfl, rfl, hsm⟩
  have HSM := hide hsm
  clear hsm HH
  cases b
  case true =>
    go_wp2_with fail
    refine (live40 _).mono ?_; rintro e w' ⟨rfl, hb⟩
    go_wp2
    go_ret
    exact ⟨rfl, hb⟩
  case false =>
    have hl100 : l.length ≤ 100 := (HSM.out rfl).1
    have HSM2 := hide (HSM.out rfl).2
    clear HSM
    go_wp2_with fail
    refine (HN.out _).mono ?_; rintro e w1 ⟨gx, F0, rfl, hm0, hb0⟩
    have HM0 := hide hm0
    have HB0 := hide hb0
    clear hm0 hb0
    go_wp2_with fail
    refine (HM.out _).mono ?_; rintro e w2 ⟨gy, G0, rfl, hr0, hb2⟩
    have HBO : Hid (BothM w w2 w1.heap.size gx gy R emptyQ 0 F0 G0) := ⟨HM0.out.on hb2, hr0, Off.new HM0.out.foot hr0.foot (Nat.le_refl _), HB0.out.size, below2 HB0.out hb2 (Nat.le_refl _), by intro i _ m hm; simp [emptyQ] at hm⟩
    clear hr0 hb2
    go_wp2_with fail
    refine (num40 _ _).mono ?_; rintro e w' ⟨rfl, rfl⟩
    go_wp2
    go_loopw [9] (fun i wr => ∃ k : Nat, k ≤ l.length ∧ i = .int .i64 k ∧ Hid (∃ Q n F G, BothM w wr w1.heap.size gx gy R Q n F G)) (fun i _ => l.length - (intOf i).toNat)
    case atStart => exact ⟨0, Nat.zero_le _, rfl, emptyQ, 0, F0, G0, HBO.out⟩
    case round =>
      obtain ⟨k, hk, rfl, hrel⟩ := hrel
      obtain ⟨Q, n, F, G, hbo⟩ := hrel.out
      have HB := hide hbo
      clear hrel hbo
      by_cases hlt : k < l.length
      · obtain ⟨⟨d, pt, m⟩, hpm⟩ : ∃ x, l[k]? = some x := ⟨_, List.getElem?_eq_getElem hlt⟩
        obtain ⟨b, o, u, rfl, hbl, h0, h1, h2, hfb, _⟩ := HL.out.rd k d pt m hpm
        have c0 := (HB.out.bel.cell (p := ⟨b, o + k * 3, none⟩) hbl).trans h0
        have c1 := (HB.out.bel.cell (p := ⟨b, o + k * 3 + 1, none⟩) hbl).trans h1
        have c2 := (HB.out.bel.cell (p := ⟨b, o + k * 3 + 2, none⟩) hbl).trans h2
        obtain ⟨A, cA, rfl, hA, hby, _⟩ := hfb
        have HCA := hide (HCP.out k d pt m hpm b o A cA rfl h2)
        have HML := hide (HSM2.out k d pt m hpm)
        have HBY := hide hby
        have HA := hide hA
        have HBL := hide hbl
        have H1 := hide h1
        have H2 := hide h2
        have HBD := hide (HB.out.on (Below.refl _ _).drew)
        have HFT := hide HBD.out.m.foot
        have g0 : (0 : Int) ≤ (k : Int) := by omega
        have g3 : (k : Int) < (l.length : Int) := by omega
        clear h0 h1 h2 hA hby hpm hbl
        by_cases d0 : d = 0
        · subst d0
          obtain ⟨nE, hnE⟩ : ∃ n, n = mpushE R Q pt m := ⟨_, rfl⟩
          have HNE := hide hnE
          have hne : ((nE : Int) != (nE : Int)) = false := by simp
          clear hnE
          go_wp2
          go_region_held3 (fun w' => w'.cell? ⟨b, o + k * 3 + 1, none⟩ = some (.int .i64 pt) ∧ w'.cell? ⟨b, o + k * 3 + 2, none⟩ = some (.slice A m.length cA)) (first
              | exact ⟨((HBD.out.step ht3 hm3 ht4 hr4 (small_push HBD.out.small pt m)).bel.cell (p := ⟨b, o + k * 3 + 1, none⟩) HBL.out).trans H1.out, ((HBD.out.step ht3 hm3 ht4 hr4 (small_push HBD.out.small pt m)).bel.cell (p := ⟨b, o + k * 3 + 2, none⟩) HBL.out).trans H2.out⟩
              | exact ⟨((HBD.out.bel1 ht3).cell (p := ⟨b, o + k * 3 + 1, none⟩) HBL.out).trans H1.out, ((HBD.out.bel1 ht3).cell (p := ⟨b, o + k * 3 + 2, none⟩) HBL.out).trans H2.out⟩
              | go_keep)
            ((first
              | (go_at_call 35; (with_reducible refine (mux_pushE HBD.out.m pt A cA m ((HA.out.below HBD.out.bel (Nat.le_refl _)).more HBD.out.bel.size) HNE.out).mono ?_); rintro e w3 ⟨F', rfl, hm3, ht3⟩)
              | (go_at_call 33; (with_reducible refine (num40 _ _).mono ?_); rintro e w' ⟨rfl, rfl⟩)
              | (go_at_call 43; (with_reducible refine (rmux_pushE (HBD.out.mid ht3) pt A cA m ((HA.out.below (HBD.out.bel1 ht3) (Nat.le_refl _)).more (HBD.out.bel1 ht3).size) HNE.out).mono ?_); rintro e wx ⟨G', rfl, hr4, ht4⟩)))
          have hx := HBD.out.step ht3 hm3 ht4 hr4 (small_push HBD.out.small pt m)
          obtain ⟨ns, hns⟩ : ∃ q, q = mpushL R Q pt m := ⟨_, rfl⟩
          rw [← hns] at hx
          have HX := hide hx
          clear hx hns hm3 ht3 hr4 ht4 c0 c1 c2 hne g0 g3
          go_wp2
          go_loop [18] (fun p => ∃ P : Int, -1 ≤ P ∧ P ≤ 9 ∧ p = .int .i64 P) (fun p => (9 - intOf p).toNat)
          case atStart => exact ⟨-1, by omega, by omega, rfl⟩
          case round =>
            obtain ⟨P, hP1, hP2, rfl⟩ := hrel
            by_cases h9 : P < 9
            · by_cases h0 : 0 ≤ P
              · by_cases h8 : P < 8
                · obtain ⟨q, rfl⟩ := Int.eq_ofNat_of_zero_le h0
                  have hq8 : q < 8 := by omega
                  have HLN := hide (mux_lenN HX.out.m hq8)
                  obtain ⟨gs, Fs, gr, cr, hr⟩ := HX.out.r
                  have x0 : wx.cell? ⟨gy, 0, none⟩ = some (.slice (some ⟨gr, 0, none⟩) 8 cr) := hr.blk.cell rfl
                  have xq : wx.cell? ⟨gr, q, none⟩ = some (.pointer (some ⟨gs q, 0, none⟩)) := hr.row q hq8
                  obtain ⟨_, _, _, _, V, cV, vs, hbk, _⟩ := hr.q q hq8
                  have x1 : wx.cell? ⟨gs q, 1, none⟩ = some (.slice V (ns q).length cV) := hbk.cell rfl
                  have xne : (((ns q).length : Int) != ((ns q).length : Int)) = false := by simp
                  clear hr hbk hP1 hP2 hq8
                  go_wp2_with fail
                  refine HLN.out.mono ?_; rintro e w' ⟨rfl, rfl⟩
                  go_wp2
                  go_round
                  case rel => exact ⟨(q : Int) + 1, by omega, by omega, by go_num⟩
                  case measure => simp [intOf]; omega
                · obtain rfl : P = 8 := by omega
                  have HLN := hide (mux_lenOut HX.out.m 8 (by omega))
                  clear hP1 hP2 h9 h0 h8
                  go_wp2_with fail
                  refine HLN.out.mono ?_; rintro e w' ⟨rfl, rfl⟩
                  go_wp2
                  go_round
                  case rel => exact ⟨9, by omega, by omega, by go_num⟩
                  case measure => simp [intOf]
              · obtain rfl : P = -1 := by omega
                have HLN := hide (mux_lenOut HX.out.m (-1) (by omega))
                clear hP1 hP2 h9 h0
                go_wp2_with fail
                refine HLN.out.mono ?_; rintro e w' ⟨rfl, rfl⟩
                go_wp2
                go_round
                case rel => exact ⟨0, by omega, by omega, by go_num⟩
                case measure => simp [intOf]
            · obtain rfl : P = 9 := by omega
              go_wp2
              go_roundw
              case rel => exact ⟨k + 1, by omega, by go_num, _, _, _, _, HX.out⟩
              case measure => simp [intOf]; omega
        · have e0 : (d == 0) = false := by simp; exact d0
          by_cases d1 : d = 1
          · subst d1
            have hfl := tellF_len HB.out.small n
            have HNX := hide (mux_next HB.out.m HB.out.small)
            obtain ⟨f, hf⟩ : ∃ f, f = tellF Q n := ⟨_, rfl⟩
            obtain ⟨bb, hbb⟩ : ∃ b, b = (nextOf Q n).isSome := ⟨_, rfl⟩
            rw [← hf, ← hbb] at HNX
            rw [← hf] at hfl
            have HFL := hide (show f.length ≤ 9223372036854775807 by omega)
            have HF := hide hf
            have HBB := hide hbb
            have hne : (bb != bb) = false := by simp
            clear hf hbb hfl d0 c1 c2
            go_wp2_with fail
            refine HNX.out.mono ?_; rintro e w3 ⟨X, cx, rfl, hox, hm3, ht3⟩
            have HRT := hide (rmux_tell (HB.out.mid ht3) HB.out.small)
            rw [← HF.out, ← HBB.out] at HRT
            have HOX := hide hox
            have HM3 := hide hm3
            have HT3 := hide ht3
            clear hox hm3 ht3 HNX
            go_wp2_with fail
            refine HRT.out.mono ?_; rintro e w4 ⟨Y, cy, G', rfl, hry, hr4, ht4⟩
            have HX4 := hide (HB.out.step HT3.out HM3.out ht4 hr4 (small_tell HB.out.small n))
            have HXX := hide (own_rd (HB.out.own HOX.out ht4))
            have HYY := hide hry
            clear hry hr4 ht4 HRT
            go_wp2_with fail
            refine (same_eq HXX.out HYY.out HFL.out).mono ?_; rintro e wx ⟨rfl, hbx⟩
            have hx := HX4.out.on hbx
            obtain ⟨ns, hns⟩ : ∃ q, q = tellQ Q n := ⟨_, rfl⟩
            rw [← hns] at hx
            have HX := hide hx
            clear hx hns hbx c0 hne g0 g3
            go_wp2
            go_loop [18] (fun p => ∃ P : Int, -1 ≤ P ∧ P ≤ 9 ∧ p = .int .i64 P) (fun p => (9 - intOf p).toNat)
            case atStart => exact ⟨-1, by omega, by omega, rfl⟩
            case round =>
              obtain ⟨P, hP1, hP2, rfl⟩ := hrel
              by_cases h9 : P < 9
              · by_cases h0 : 0 ≤ P
                · by_cases h8 : P < 8
                  · obtain ⟨q, rfl⟩ := Int.eq_ofNat_of_zero_le h0
                    have hq8 : q < 8 := by omega
                    have HLN := hide (mux_lenN HX.out.m hq8)
                    obtain ⟨gs, Fs, gr, cr, hr⟩ := HX.out.r
                    have x0 : wx.cell? ⟨gy, 0, none⟩ = some (.slice (some ⟨gr, 0, none⟩) 8 cr) := hr.blk.cell rfl
                    have xq : wx.cell? ⟨gr, q, none⟩ = some (.pointer (some ⟨gs q, 0, none⟩)) := hr.row q hq8
                    obtain ⟨_, _, _, _, V, cV, vs, hbk, _⟩ := hr.q q hq8
                    have x1 : wx.cell? ⟨gs q, 1, none⟩ = some (.slice V (ns q).length cV) := hbk.cell rfl
                    have xne : (((ns q).length : Int) != ((ns q).length : Int)) = false := by simp
                    clear hr hbk hP1 hP2 hq8
                    go_wp2_with fail
                    refine HLN.out.mono ?_; rintro e w' ⟨rfl, rfl⟩
                    go_wp2
                    go_round
                    case rel => exact ⟨(q : Int) + 1, by omega, by omega, by go_num⟩
                    case measure => simp [intOf]; omega
                  · obtain rfl : P = 8 := by omega
                    have HLN := hide (mux_lenOut HX.out.m 8 (by omega))
                    clear hP1 hP2 h9 h0 h8
                    go_wp2_with fail
                    refine HLN.out.mono ?_; rintro e w' ⟨rfl, rfl⟩
                    go_wp2
                    go_round
                    case rel => exact ⟨9, by omega, by omega, by go_num⟩
                    case measure => simp [intOf]
                · obtain rfl : P = -1 := by omega
                  have HLN := hide (mux_lenOut HX.out.m (-1) (by omega))
                  clear hP1 hP2 h9 h0
                  go_wp2_with fail
                  refine HLN.out.mono ?_; rintro e w' ⟨rfl, rfl⟩
                  go_wp2
                  go_round
                  case rel => exact ⟨0, by omega, by omega, by go_num⟩
                  case measure => simp [intOf]
              · obtain rfl : P = 9 := by omega
                go_wp2
                go_roundw
                case rel => exact ⟨k + 1, by omega, by go_num, _, _, _, _, HX.out⟩
                case measure => simp [intOf]; omega
          · have e1 : (d == 1) = false := by simp; exact d1
            by_cases d2 : d = 2
            · subst d2
              obtain ⟨nE, hnE⟩ : ∃ n, n = takeE R Q m := ⟨_, rfl⟩
              have HNE := hide hnE
              have HMR := hide (show m.length ≤ 140737488355328 by have := HML.out; omega)
              have hne : ((nE : Int) != (nE : Int)) = false := by simp
              clear hnE d0 d1
              go_wp2
              go_region_held3 (fun w' => w'.cell? ⟨b, o + k * 3 + 2, none⟩ = some (.slice A m.length cA)) (first
                  | exact ((HBD.out.step ht3 hm3 ht4 hr4 (small_take HBD.out.small m)).bel.cell (p := ⟨b, o + k * 3 + 2, none⟩) HBL.out).trans H2.out
                  | exact ((HBD.out.bel1 ht3).cell (p := ⟨b, o + k * 3 + 2, none⟩) HBL.out).trans H2.out
                  | go_keep)
                ((first
                  | (go_at_call 45; (with_reducible refine (mux_takeE HBD.out.m A cA m HCA.out HMR.out HBY.out ((HA.out.below HBD.out.bel (Nat.le_refl _)).more HBD.out.bel.size) HNE.out).mono ?_); rintro e w3 ⟨F', rfl, hm3, ht3⟩)
                  | (go_at_call 33; (with_reducible refine (num40 _ _).mono ?_); rintro e w' ⟨rfl, rfl⟩)
                  | (go_at_call 46; (with_reducible refine (rmux_takeE (HBD.out.mid ht3) A cA m HCA.out HMR.out HBY.out ((HA.out.below (HBD.out.bel1 ht3) (Nat.le_refl _)).more (HBD.out.bel1 ht3).size) HNE.out).mono ?_); rintro e wx ⟨G', rfl, hr4, ht4⟩)))
              have hx := HBD.out.step ht3 hm3 ht4 hr4 (small_take HBD.out.small m)
              obtain ⟨ns, hns⟩ : ∃ q, q = takeQ R Q m := ⟨_, rfl⟩
              rw [← hns] at hx
              have HX := hide hx
              clear hx hns hm3 ht3 hr4 ht4 c0 c1 c2 hne g0 g3
              go_wp2
              go_loop [18] (fun p => ∃ P : Int, -1 ≤ P ∧ P ≤ 9 ∧ p = .int .i64 P) (fun p => (9 - intOf p).toNat)
              case atStart => exact ⟨-1, by omega, by omega, rfl⟩
              case round =>
                obtain ⟨P, hP1, hP2, rfl⟩ := hrel
                by_cases h9 : P < 9
                · by_cases h0 : 0 ≤ P
                  · by_cases h8 : P < 8
                    · obtain ⟨q, rfl⟩ := Int.eq_ofNat_of_zero_le h0
                      have hq8 : q < 8 := by omega
                      have HLN := hide (mux_lenN HX.out.m hq8)
                      obtain ⟨gs, Fs, gr, cr, hr⟩ := HX.out.r
                      have x0 : wx.cell? ⟨gy, 0, none⟩ = some (.slice (some ⟨gr, 0, none⟩) 8 cr) := hr.blk.cell rfl
                      have xq : wx.cell? ⟨gr, q, none⟩ = some (.pointer (some ⟨gs q, 0, none⟩)) := hr.row q hq8
                      obtain ⟨_, _, _, _, V, cV, vs, hbk, _⟩ := hr.q q hq8
                      have x1 : wx.cell? ⟨gs q, 1, none⟩ = some (.slice V (ns q).length cV) := hbk.cell rfl
                      have xne : (((ns q).length : Int) != ((ns q).length : Int)) = false := by simp
                      clear hr hbk hP1 hP2 hq8
                      go_wp2_with fail
                      refine HLN.out.mono ?_; rintro e w' ⟨rfl, rfl⟩
                      go_wp2
                      go_round
                      case rel => exact ⟨(q : Int) + 1, by omega, by omega, by go_num⟩
                      case measure => simp [intOf]; omega
                    · obtain rfl : P = 8 := by omega
                      have HLN := hide (mux_lenOut HX.out.m 8 (by omega))
                      clear hP1 hP2 h9 h0 h8
                      go_wp2_with fail
                      refine HLN.out.mono ?_; rintro e w' ⟨rfl, rfl⟩
                      go_wp2
                      go_round
                      case rel => exact ⟨9, by omega, by omega, by go_num⟩
                      case measure => simp [intOf]
                  · obtain rfl : P = -1 := by omega
                    have HLN := hide (mux_lenOut HX.out.m (-1) (by omega))
                    clear hP1 hP2 h9 h0
                    go_wp2_with fail
                    refine HLN.out.mono ?_; rintro e w' ⟨rfl, rfl⟩
                    go_wp2
                    go_round
                    case rel => exact ⟨0, by omega, by omega, by go_num⟩
                    case measure => simp [intOf]
                · obtain rfl : P = 9 := by omega
                  go_wp2
                  go_roundw
                  case rel => exact ⟨k + 1, by omega, by go_num, _, _, _, _, HX.out⟩
                  case measure => simp [intOf]; omega
            · have e2 : (d == 2) = false := by simp; exact d2
              by_cases d3 : d = 3
              · subst d3
                have hfl := popF_len HB.out.small pt
                have HNX := hide (mux_pop HB.out.m pt)
                obtain ⟨f, hf⟩ : ∃ f, f = mpopF Q pt := ⟨_, rfl⟩
                obtain ⟨bb, hbb⟩ : ∃ b, b = mpopB Q pt := ⟨_, rfl⟩
                rw [← hf, ← hbb] at HNX
                rw [← hf] at hfl
                have HFL := hide (show f.length ≤ 9223372036854775807 by omega)
                have HF := hide hf
                have HBB := hide hbb
                have hne : (bb != bb) = false := by simp
                clear hf hbb hfl d0 d1 d2 c2
                go_wp2_with fail
                refine HNX.out.mono ?_; rintro e w3 ⟨X, cx, rfl, hox, hm3, ht3⟩
                have HRT := hide (rmux_pop (HB.out.mid ht3) pt)
                rw [← HF.out, ← HBB.out] at HRT
                have x1 : w3.cell? ⟨b, o + k * 3 + 1, none⟩ = some (.int .i64 pt) := ((HB.out.bel1 ht3).cell (p := ⟨b, o + k * 3 + 1, none⟩) HBL.out).trans H1.out
                have HOX := hide hox
                have HM3 := hide hm3
                have HT3 := hide ht3
                clear hox hm3 ht3 HNX c1
                go_wp2_with fail
                refine HRT.out.mono ?_; rintro e w4 ⟨Y, cy, G', rfl, hry, hr4, ht4⟩
                have HX4 := hide (HB.out.step HT3.out HM3.out ht4 hr4 (small_pop HB.out.small pt))
                have HXX := hide (own_rd (HB.out.own HOX.out ht4))
                have HYY := hide hry
                clear hry hr4 ht4 HRT
                go_wp2_with fail
                refine (same_eq HXX.out HYY.out HFL.out).mono ?_; rintro e wx ⟨rfl, hbx⟩
                have hx := HX4.out.on hbx
                obtain ⟨ns, hns⟩ : ∃ q, q = mpopQ Q pt := ⟨_, rfl⟩
                rw [← hns] at hx
                have HX := hide hx
                clear hx hns hbx c0 hne g0 g3 x1
                go_wp2
                go_loop [18] (fun p => ∃ P : Int, -1 ≤ P ∧ P ≤ 9 ∧ p = .int .i64 P) (fun p => (9 - intOf p).toNat)
                case atStart => exact ⟨-1, by omega, by omega, rfl⟩
                case round =>
                  obtain ⟨P, hP1, hP2, rfl⟩ := hrel
                  by_cases h9 : P < 9
                  · by_cases h0 : 0 ≤ P
                    · by_cases h8 : P < 8
                      · obtain ⟨q, rfl⟩ := Int.eq_ofNat_of_zero_le h0
                        have hq8 : q < 8 := by omega
                        have HLN := hide (mux_lenN HX.out.m hq8)
                        obtain ⟨gs, Fs, gr, cr, hr⟩ := HX.out.r
                        have x0 : wx.cell? ⟨gy, 0, none⟩ = some (.slice (some ⟨gr, 0, none⟩) 8 cr) := hr.blk.cell rfl
                        have xq : wx.cell? ⟨gr, q, none⟩ = some (.pointer (some ⟨gs q, 0, none⟩)) := hr.row q hq8
                        obtain ⟨_, _, _, _, V, cV, vs, hbk, _⟩ := hr.q q hq8
                        have x1 : wx.cell? ⟨gs q, 1, none⟩ = some (.slice V (ns q).length cV) := hbk.cell rfl
                        have xne : (((ns q).length : Int) != ((ns q).length : Int)) = false := by simp
                        clear hr hbk hP1 hP2 hq8
                        go_wp2_with fail
                        refine HLN.out.mono ?_; rintro e w' ⟨rfl, rfl⟩
                        go_wp2
                        go_round
                        case rel => exact ⟨(q : Int) + 1, by omega, by omega, by go_num⟩
                        case measure => simp [intOf]; omega
                      · obtain rfl : P = 8 := by omega
                        have HLN := hide (mux_lenOut HX.out.m 8 (by omega))
                        clear hP1 hP2 h9 h0 h8
                        go_wp2_with fail
                        refine HLN.out.mono ?_; rintro e w' ⟨rfl, rfl⟩
                        go_wp2
                        go_round
                        case rel => exact ⟨9, by omega, by omega, by go_num⟩
                        case measure => simp [intOf]
                    · obtain rfl : P = -1 := by omega
                      have HLN := hide (mux_lenOut HX.out.m (-1) (by omega))
                      clear hP1 hP2 h9 h0
                      go_wp2_with fail
                      refine HLN.out.mono ?_; rintro e w' ⟨rfl, rfl⟩
                      go_wp2
                      go_round
                      case rel => exact ⟨0, by omega, by omega, by go_num⟩
                      case measure => simp [intOf]
                  · obtain rfl : P = 9 := by omega
                    go_wp2
                    go_roundw
                    case rel => exact ⟨k + 1, by omega, by go_num, _, _, _, _, HX.out⟩
                    case measure => simp [intOf]; omega
              · have e3 : (d == 3) = false := by simp; exact d3
                obtain ⟨wx, hwx⟩ : ∃ wx, wx = wr := ⟨_, rfl⟩
                obtain ⟨ns, hns⟩ : ∃ q, q = Q := ⟨_, rfl⟩
                subst hwx hns
                have HX := HB
                clear d0 d1 d2 d3 c1 c2
                go_wp2
                go_loop [18] (fun p => ∃ P : Int, -1 ≤ P ∧ P ≤ 9 ∧ p = .int .i64 P) (fun p => (9 - intOf p).toNat)
                case atStart => exact ⟨-1, by omega, by omega, rfl⟩
                case round =>
                  obtain ⟨P, hP1, hP2, rfl⟩ := hrel
                  by_cases h9 : P < 9
                  · by_cases h0 : 0 ≤ P
                    · by_cases h8 : P < 8
                      · obtain ⟨q, rfl⟩ := Int.eq_ofNat_of_zero_le h0
                        have hq8 : q < 8 := by omega
                        have HLN := hide (mux_lenN HX.out.m hq8)
                        obtain ⟨gs, Fs, gr, cr, hr⟩ := HX.out.r
                        have x0 : wx.cell? ⟨gy, 0, none⟩ = some (.slice (some ⟨gr, 0, none⟩) 8 cr) := hr.blk.cell rfl
                        have xq : wx.cell? ⟨gr, q, none⟩ = some (.pointer (some ⟨gs q, 0, none⟩)) := hr.row q hq8
                        obtain ⟨_, _, _, _, V, cV, vs, hbk, _⟩ := hr.q q hq8
                        have x1 : wx.cell? ⟨gs q, 1, none⟩ = some (.slice V (ns q).length cV) := hbk.cell rfl
                        have xne : (((ns q).length : Int) != ((ns q).length : Int)) = false := by simp
                        clear hr hbk hP1 hP2 hq8
                        go_wp2_with fail
                        refine HLN.out.mono ?_; rintro e w' ⟨rfl, rfl⟩
                        go_wp2
                        go_round
                        case rel => exact ⟨(q : Int) + 1, by omega, by omega, by go_num⟩
                        case measure => simp [intOf]; omega
                      · obtain rfl : P = 8 := by omega
                        have HLN := hide (mux_lenOut HX.out.m 8 (by omega))
                        clear hP1 hP2 h9 h0 h8
                        go_wp2_with fail
                        refine HLN.out.mono ?_; rintro e w' ⟨rfl, rfl⟩
                        go_wp2
                        go_round
                        case rel => exact ⟨9, by omega, by omega, by go_num⟩
                        case measure => simp [intOf]
                    · obtain rfl : P = -1 := by omega
                      have HLN := hide (mux_lenOut HX.out.m (-1) (by omega))
                      clear hP1 hP2 h9 h0
                      go_wp2_with fail
                      refine HLN.out.mono ?_; rintro e w' ⟨rfl, rfl⟩
                      go_wp2
                      go_round
                      case rel => exact ⟨0, by omega, by omega, by go_num⟩
                      case measure => simp [intOf]
                  · obtain rfl : P = 9 := by omega
                    go_wp2
                    go_roundw
                    case rel => exact ⟨k + 1, by omega, by go_num, _, _, _, _, HX.out⟩
                    case measure => simp [intOf]; omega
      · obtain rfl : k = l.length := by omega
        go_wp2_with fail
        refine (live40 _).mono ?_; rintro e w5 ⟨rfl, hb5⟩
        go_wp2
        go_ret
        exact ⟨rfl, below2 HB.out.bel hb5 (Nat.le_refl _)⟩
theorem walk_MuxDoes (w : World) (r : Int) (hr : Fit r) (a : Option Addr) (c : Nat) (l : List (Int × Int × List Nat)) (hl : InA40c w a c l) :
    Calls Try.prog 8 #[.int .i64 r, .slice a l.length c] w fun e w' => e = .returned (.bool true) ∧ Below w.heap.size w w' := by
  by_cases h : r < 1 ∨ 16 < r
  · exact mdoes_bad r h hl.base
  · obtain ⟨R, rfl⟩ := Int.eq_ofNat_of_zero_le (show 0 ≤ r by omega)
    exact mdoes_in R (by omega) (by omega) hl
end Go.Proofs.Ytfcappddncnglaa
