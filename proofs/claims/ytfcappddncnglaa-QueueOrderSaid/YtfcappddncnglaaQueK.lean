/- Layer 19: the law QueueOrder, walked inside its bounds. No conditions. -/
import Derived.Test.YtfcappddncnglaaQueJ
namespace Go.Proofs.Ytfcappddncnglaa
open Go.RowKit
set_option linter.unusedVariables false

theorem que_pop_0 {w : World} {B g room : Nat} {F : Nat → Prop} (h : Qu w B g room [] F) :
    Calls Try.prog 18 #[.pointer (some ⟨g, 0, none⟩)] w fun e w' => ∃ A c, e = .returned (.tuple #[.slice A 0 c, .bool false]) ∧ Qu w' B g room [] F ∧ Turn F F w w' := by
  refine (que_pop h).mono ?_
  rintro e w' ⟨A, c, he, ho, hq, ht⟩
  exact ⟨A, c, he, hq, ht⟩
theorem que_push_in {w : World} {B g room : Nat} {ms : List (List Nat)} {F : Nat → Prop} (h : Qu w B g room ms F) (A : Option Addr) (c : Nat) (m : List Nat) (hA : Rd w.heap.size w A (u8s m)) (hp : pushE room ms m = 0) :
    Calls Try.prog 21 #[.pointer (some ⟨g, 0, none⟩), .slice A m.length c] w fun e w' => ∃ F', e = .returned (.int .i64 0) ∧ Qu w' B g room (ms ++ [m]) F' ∧ Turn F F' w w' := by
  have h1 := que_push h A c m hA
  have h2 : pushL room ms m = ms ++ [m] := by
    unfold pushE at hp
    unfold pushL
    by_cases a : 64 < m.length
    · rw [if_pos a] at hp; omega
    · by_cases b : room ≤ ms.length
      · rw [if_neg a, if_pos b] at hp; omega
      · rw [if_neg a, if_neg b]
  rw [hp, h2] at h1
  exact h1
theorem que_push_out {w : World} {B g room : Nat} {ms : List (List Nat)} {F : Nat → Prop} (h : Qu w B g room ms F) (A : Option Addr) (c : Nat) (m : List Nat) (hA : Rd w.heap.size w A (u8s m)) (hp : pushE room ms m ≠ 0) :
    Calls Try.prog 21 #[.pointer (some ⟨g, 0, none⟩), .slice A m.length c] w fun e w' => ∃ F' n, e = .returned (.int .i64 (n : Nat)) ∧ n ≠ 0 ∧ n < 4 ∧ Qu w' B g room ms F' ∧ Turn F F' w w' := by
  have h1 := que_push h A c m hA
  have h2 : pushL room ms m = ms ∧ pushE room ms m < 4 := by
    unfold pushE at hp ⊢
    unfold pushL
    by_cases a : 64 < m.length
    · rw [if_pos a, if_pos a]; exact ⟨rfl, by omega⟩
    · by_cases b : room ≤ ms.length
      · rw [if_neg a, if_neg a, if_pos b, if_pos b]; exact ⟨rfl, by omega⟩
      · rw [if_neg a, if_neg b] at hp; exact absurd rfl hp
  rw [h2.1] at h1
  refine h1.mono ?_
  rintro e w' ⟨F', he, hq, ht⟩
  exact ⟨F', _, he, hp, h2.2, hq, ht⟩
set_option maxRecDepth 100000 in
set_option maxHeartbeats 4000000 in
theorem order_in (R : Nat) (hR : 1 ≤ R) (hR2 : R ≤ 16) {w : World} {a : Option Addr} {c : Nat} {l : List (Bool × List Nat)} (hl : InA19 w a c l) :
    Calls Try.prog 4 #[.int .i64 (R : Nat), .slice a l.length c] w fun e w' => e = .returned (.bool true) ∧ Below w.heap.size w w' := by
  obtain ⟨i0, hi, hz0, hz1, hz2⟩ := info_parts Try.infB
  have HN := hide (que_new (R : Int) (by omega) (by omega) w)
  rw [Int.toNat_natCast] at HN
  have HL := hide hl
  have HR2 := hide hR2
  have hll : l.length ≤ 9223372036854775807 := Nat.le_trans hl.cap hl.max
  clear hl hR hR2
  go_enter Try.func4, Try.ntmps4
  go_wp2_with fail
  refine HN.out.mono ?_; rintro e w1 ⟨g, F0, rfl, hq0, hb0⟩
  have HQ0 := hide hq0
  have HB0 := hide hb0
  have HH := hide (huge19 (HL.out.on hb0))
  clear hq0 hb0 HN
  go_wp2_with fail
  refine HH.out.mono ?_; rintro e w' ⟨b, rfl, rfl, hsm⟩
  have HSM := hide hsm
  clear hsm HH
  cases b
  case true =>
    go_wp2_with fail
    refine (live19 _).mono ?_; rintro e w' ⟨rfl, hb⟩
    go_wp2
    go_ret
    exact ⟨rfl, below2 HB0.out hb (Nat.le_refl _)⟩
  case false =>
    have hl100 : l.length ≤ 100 := (HSM.out rfl).1
    go_wp2_with fail
    refine (num19 _ _).mono ?_; rintro e w' ⟨rfl, rfl⟩
    have HO0 : Hid (∃ ms ins outs F vi vo, Ord w w1 g R ms ins outs F (.slice none 0 0) vi (.slice none 0 0) vo ∧ ins = outs ++ ms ∧ ins.length ≤ 0 ∧ (∀ x ∈ ins, x.length ≤ 64)) :=
      ⟨[], [], [], F0, [], [], ⟨HQ0.out, World.ownsRow_nil _ _ _ _, World.ownsRow_nil _ _ _ _, Txs.nil _, Txs.nil _, (by simp), (fun k h => by cases h), (fun k h => by cases h), HB0.out⟩, rfl, by simp, by simp⟩
    go_wp2
    go_loopw [7, 8, 9] (fun VI VO i wr => ∃ k : Nat, k ≤ l.length ∧ i = .int .i64 k ∧ Hid (∃ ms ins outs F vi vo, Ord w wr g R ms ins outs F VI vi VO vo ∧ ins = outs ++ ms ∧ ins.length ≤ k ∧ (∀ x ∈ ins, x.length ≤ 64))) (fun _ _ i _ => l.length - (intOf i).toNat)
    case atStart => exact ⟨0, Nat.zero_le _, rfl, HO0⟩
    case round =>
      obtain ⟨k, hk, rfl, hrel⟩ := hrel
      obtain ⟨ms, ins, outs, F, vi, vo, ho, hio, hik, hs64⟩ := hrel.out
      have HS64 := hide hs64
      clear hs64
      clear hrel
      by_cases hlt : k < l.length
      · obtain ⟨⟨p, m⟩, hpm⟩ : ∃ x, l[k]? = some x := ⟨_, List.getElem?_eq_getElem hlt⟩
        obtain ⟨b, o, u, rfl, _, h1, h2, hfb⟩ := (HL.out.on ho.bel).rd k p m hpm
        have h0b : Hid (FB w u m) := by
          obtain ⟨b', o', u', e, hb', h1', h2', h3'⟩ := HL.out.rd k p m hpm
          obtain ⟨rfl, rfl⟩ : b = b' ∧ o = o' := by simpa using e
          have := (ho.bel.cell (p := ⟨b, o + k * 2 + 1, none⟩) hb').trans h2'
          have := Option.some.inj (h2.symm.trans this)
          subst this
          exact h3'
        obtain ⟨A, cA, rfl, hA, _, hml⟩ := hfb
        have HO := hide ho
        have HIO := hide hio
        have HA := hide hA
        have gI1 : ins.length + 1 ≤ 9223372036854775807 := by omega
        have gI2 : (ins.length + 1) * 24 ≤ 140737488355328 := by omega
        have hol : outs.length ≤ ins.length := by rw [hio]; simp
        have gO1 : outs.length + 1 ≤ 9223372036854775807 := by omega
        have gO2 : (outs.length + 1) * 24 ≤ 140737488355328 := by omega
        have gB := ho.bel.size
        have hro := ho.ro
        have hri := ho.ri
        have hil : ins.length = outs.length + ms.length := by rw [hio]; simp
        have HIK := hide hik
        have HIL := hide hil
        have HPM := hide hpm
        obtain ⟨AI, cI, rfl, _⟩ := own_val hri
        obtain ⟨AO, cO, rfl, _⟩ := own_val hro
        clear ho hio hA hpm hik hil hol
        have hI100 : ins.length ≤ 100 := by have := HIK.out; omega
        cases p
        case true =>
          cases ms with
          | nil =>
            have HP := hide (que_pop_0 HO.out.q)
            clear hro hri gI1 gI2 gO1 gO2 h2 gB
            go_wp2_with fail
            refine HP.out.mono ?_; rintro e wx ⟨X, cx, rfl, hq, ht⟩
            have HX := hide (HO.out.turn ht hq)
            have t2 : (wrap64 ((ins.length : Int) - (outs.length : Int)) != 0) = false := by have := HIL.out; rw [List.length_nil] at this; rw [bne_eq_false_iff_eq]; unfold wrap64; omega
            have t1 : (wrap64 (R : Int) != (R : Int)) = false := by have := HR2.out; rw [bne_eq_false_iff_eq]; unfold wrap64; omega
            clear hq ht HP
            go_wp2_with fail
            refine (que_len HX.out.q).mono ?_; rintro e w' ⟨rfl, rfl⟩
            go_wp2_with fail
            refine (que_len HX.out.q).mono ?_; rintro e w' ⟨rfl, rfl⟩
            go_wp2_with fail
            refine (que_free HX.out.q).mono ?_; rintro e w' ⟨rfl, nf, rfl⟩
            go_wp2_with fail
            refine (que_len (HX.out.q.drewN nf)).mono ?_; rintro e w' ⟨rfl, rfl⟩
            go_wp2
            go_roundw
            case rel => exact ⟨k + 1, by omega, by go_num, ⟨[], ins, outs, F, vi, vo, HX.out.drewN _, HIO.out, by have := HIK.out; omega, HS64.out⟩⟩
            case measure => simp [intOf]; omega
          | cons m0 ms =>
            have HP := hide (que_pop1 HO.out.q)
            clear hri gI1 gI2 h2
            go_wp2_with fail
            refine HP.out.mono ?_; rintro e w3 ⟨X, cx, rfl, hox, hq, ht⟩
            have HX3 := hide (HO.out.turn ht hq)
            have HFR := hide (HO.out.fresh hox)
            have HTX := hide (own_tx hox)
            have hro3 := HX3.out.ro
            have gB3 := HX3.out.bel.size
            clear hox hq ht HP hro gB
            go_wp2_with (at_builtin; refine wpList_app1 _ rfl (.tmp 42) (.tmp 44) 43 rfl w.heap.size 33 i0 (.slice none 0 0) 24 Try.underlying43 hi hz0 hz1 hz2 rfl _ _ _ rfl hro3 _ rfl (by rfl) gO1 gO2 gB3 ?_; intro v' wx hown1 hg1 hat1; obtain ⟨A', c', rfl, _⟩ := own_val hown1)
            have HX := hide (HX3.out.pushO HTX.out (fun k hk => ⟨(HFR.out k hk).1, (HFR.out k hk).2.1, (HFR.out k hk).2.2.1, (HFR.out k hk).2.2.2⟩) hown1 hg1 hat1)
            have t2 : (wrap64 ((ins.length : Int) - ((outs.length : Int) + 1)) != (ms.length : Int)) = false := by have := HIL.out; rw [List.length_cons] at this; rw [bne_eq_false_iff_eq]; unfold wrap64; omega
            clear hown1 hg1 hat1 hro3 gB3 gO1 gO2
            have hle : (ms.length : Int) ≤ (R : Int) := by have := HX.out.q.2.2.1; omega
            have t1 : (wrap64 ((ms.length : Int) + ((R - ms.length : Nat) : Int)) != (R : Int)) = false := by have := HX.out.q.2.2.1; rw [bne_eq_false_iff_eq]; unfold wrap64; omega
            refine (que_len HX.out.q).mono ?_; rintro e w' ⟨rfl, rfl⟩
            go_wp2_with fail
            refine (que_len HX.out.q).mono ?_; rintro e w' ⟨rfl, rfl⟩
            go_wp2_with fail
            refine (que_free HX.out.q).mono ?_; rintro e w' ⟨rfl, nf, rfl⟩
            go_wp2_with fail
            refine (que_len (HX.out.q.drewN nf)).mono ?_; rintro e w' ⟨rfl, rfl⟩
            go_wp2
            go_roundw
            case rel => exact ⟨k + 1, by omega, by go_num, ⟨ms, ins, outs ++ [m0], F, vi, _, HX.out.drewN _, by rw [HIO.out]; simp, by have := HIK.out; omega, HS64.out⟩⟩
            case measure => simp [intOf]; omega
        case false =>
          by_cases hpe : pushE R ms m = 0
          · have HP := hide (que_push_in HO.out.q A cA m HA.out hpe)
            have HTX : Hid (Tx w (.slice A m.length cA) m) := by obtain ⟨A', c', e, hr, _⟩ := h0b.out; exact ⟨A', c', e, hr⟩
            clear hro gO1 gO2 hpe hri gB
            go_wp2_with fail
            refine HP.out.mono ?_; rintro e w3 ⟨F', rfl, hq, ht⟩
            have HX3 := hide (HO.out.turn ht hq)
            have hri3 := HX3.out.ri
            have gB3 := HX3.out.bel.size
            obtain ⟨bx, ox, ux, ex, hbx, h1x, h2x, _⟩ := HL.out.rd k _ _ HPM.out
            obtain ⟨rfl, rfl⟩ : b = bx ∧ o = ox := by simpa using ex
            have hc3 : w3.cell? ⟨b, o + k * 2 + 1, none⟩ = some (.slice A m.length cA) := (HX3.out.bel.cell (p := ⟨b, o + k * 2 + 1, none⟩) hbx).trans (((HO.out.bel.cell (p := ⟨b, o + k * 2 + 1, none⟩) hbx).symm).trans h2)
            clear hq ht HP h1x h2x hbx
            go_wp2_with fail
            refine (num19 _ _).mono ?_; rintro e w' ⟨rfl, rfl⟩
            go_wp2_with (at_builtin; refine wpList_app1 _ rfl (.tmp 55) (.tmp 61) 43 rfl w.heap.size 33 i0 (.slice none 0 0) 24 Try.underlying43 hi hz0 hz1 hz2 rfl _ _ _ rfl hri3 _ rfl (by rfl) gI1 gI2 gB3 ?_; intro v' wx hown1 hg1 hat1; obtain ⟨A', c', rfl, _⟩ := own_val hown1)
            have HX := hide (HX3.out.pushI HTX.out hown1 hg1 hat1)
            have t2 : (wrap64 ((ins.length : Int) + 1 - (outs.length : Int)) != (ms.length : Int) + 1) = false := by have := HIL.out; rw [bne_eq_false_iff_eq]; unfold wrap64; omega
            clear hown1 hg1 hat1 hri3 gB3 gI1 gI2 hc3 h2
            have hle : ((ms.length : Int) + 1) ≤ (R : Int) := by have := HX.out.q.2.2.1.2.2; simp at this; omega
            have t1 : (wrap64 ((ms.length : Int) + 1 + ((R - (ms.length + 1) : Nat) : Int)) != (R : Int)) = false := by have := HX.out.q.2.2.1; rw [List.length_append, List.length_singleton] at this; rw [bne_eq_false_iff_eq]; unfold wrap64; omega
            refine (que_len HX.out.q).mono ?_; rintro e w' ⟨rfl, rfl⟩
            go_wp2_with fail
            refine (que_len HX.out.q).mono ?_; rintro e w' ⟨rfl, rfl⟩
            go_wp2_with fail
            refine (que_free HX.out.q).mono ?_; rintro e w' ⟨rfl, nf, rfl⟩
            go_wp2_with fail
            refine (que_len (HX.out.q.drewN nf)).mono ?_; rintro e w' ⟨rfl, rfl⟩
            go_wp2
            go_roundw
            case rel => exact ⟨k + 1, by omega, by go_num, ⟨ms ++ [m], ins ++ [m], outs, F', _, vo, HX.out.drewN _, by rw [HIO.out]; simp, by have := HIK.out; simp; omega, fun x hx => (List.mem_append.1 hx).elim (HS64.out x) (fun h => by simp at h; subst h; exact HX.out.q.2.2.2.1 _ (by simp))⟩⟩
            case measure => simp [intOf]; omega
          · have HP := hide (que_push_out HO.out.q A cA m HA.out hpe)
            clear hro hri gI1 gI2 gO1 gO2 hpe gB
            go_wp2_with fail
            refine HP.out.mono ?_; rintro e wx ⟨F', nE, rfl, hn0, hn4, hq, ht⟩
            have HX := hide (HO.out.turn ht hq)
            have tn : ((nE : Int) == 0) = false := beq_eq_false_iff_ne.2 (by omega)
            have t2 : (wrap64 ((ins.length : Int) - (outs.length : Int)) != (ms.length : Int)) = false := by have := HIL.out; rw [bne_eq_false_iff_eq]; unfold wrap64; omega
            clear hq ht HP h2 hn0 hn4
            go_wp2_with fail
            refine (num19 _ _).mono ?_; rintro e w' ⟨rfl, rfl⟩
            go_wp2_with fail
            have hle : (ms.length : Int) ≤ (R : Int) := by have := HX.out.q.2.2.1; omega
            have t1 : (wrap64 ((ms.length : Int) + ((R - ms.length : Nat) : Int)) != (R : Int)) = false := by have := HX.out.q.2.2.1; rw [bne_eq_false_iff_eq]; unfold wrap64; omega
            refine (que_len HX.out.q).mono ?_; rintro e w' ⟨rfl, rfl⟩
            go_wp2_with fail
            refine (que_len HX.out.q).mono ?_; rintro e w' ⟨rfl, rfl⟩
            go_wp2_with fail
            refine (que_free HX.out.q).mono ?_; rintro e w' ⟨rfl, nf, rfl⟩
            go_wp2_with fail
            refine (que_len (HX.out.q.drewN nf)).mono ?_; rintro e w' ⟨rfl, rfl⟩
            go_wp2
            go_roundw
            case rel => exact ⟨k + 1, by omega, by go_num, ⟨ms, ins, outs, F', vi, vo, HX.out.drewN _, HIO.out, by have := HIK.out; omega, HS64.out⟩⟩
            case measure => simp [intOf]; omega
      · obtain rfl : k = l.length := by omega
        have HO := hide ho
        have HIO := hide hio
        have hri := ho.ri
        have hro := ho.ro
        obtain ⟨AI, cI, rfl, _⟩ := own_val hri
        obtain ⟨AO, cO, rfl, _⟩ := own_val hro
        have HALL := hide (que_all ho.q)
        have hI100 : ins.length ≤ 100 := by omega
        have hil : ins.length = outs.length + ms.length := by rw [hio]; simp
        clear ho hio hik hlt hk
        go_wp2_with fail
        refine HALL.out.mono ?_; rintro e w3 ⟨Y, cy, ys, rfl, hoy, hty, hby⟩
        have HO3 := hide (HO.out.turn (Turn.of_below hby) (HO.out.q.on hby))
        have hyl := hty.1
        have HY := hide hoy
        have HT := hide hty
        have hro3 := HO3.out.ro
        have gB3 := HO3.out.bel.size
        have g1 : outs.length + ys.length ≤ 9223372036854775807 := by omega
        have g2 : (outs.length + ys.length) * 24 ≤ 140737488355328 := by omega
        have hone := hty.txs.one
        have hrdy := own_rd hoy
        have HLE : Hid (outs.length + ys.length = ins.length) := by show _ = _; omega
        have HYL := hide hyl.symm
        have HS := hide (show ∀ k, (Value.slice AO outs.length cO).ownBlock = some k → k < wr.heap.size from fun k hk => (own_block_lt HO.out.ro hk).2)
        clear hoy hty hby hri hro HALL hil hyl
        go_wp2_with (at_builtin; refine wpList_appN _ rfl (.tmp 86) (.tmp 88) 43 rfl w.heap.size 33 i0 (.slice none 0 0) 24 Try.underlying43 hi hz0 hz1 hz2 rfl _ _ _ rfl hro3 Y cy w3.heap.size ms.length ys (by rfl) HYL.out hrdy hone g1 g2 gB3 ?_; intro v' w4 hown1 hg1 hat1; rw [HLE.out] at hown1; obtain ⟨A', c', rfl, _⟩ := own_val hown1)
        have hb4 := below_app HO3.out.bel HO3.out.ro hg1 HO3.out.bel.size
        have hri4 := own_keep HO3.out.ri fun k hk => hg1.block k (own_block_lt HO3.out.ri hk).2 (fun e => (HO3.out.fi k hk).2 e.symm)
        have hto4 := HO3.out.to.kept (fun u hu k hk => hg1.block k (HO3.out.bo u hu k hk).1 (fun e => (HO3.out.bo u hu k hk).2.2.2 e.symm)) hg1.size
        have hty4 : Txs w4 ys ms := ⟨HT.out.1, fun i x hx => by
          obtain ⟨u, hu, hou, _⟩ := HT.out.2 i x hx
          obtain ⟨Au, cu, rfl, _⟩ := own_val hou
          exact ⟨_, hu, (own_tx hou).kept (fun k hk => hg1.block k (own_block_lt hou hk).2 (fun e => by have := HS.out k e.symm; have := (own_block_lt hou hk).1; omega)) hg1.size⟩⟩
        have htx := hto4.append hty4
        rw [← HIO.out] at htx
        have HSA := hide (sameAll_eq (c := c') (d := cI) (own_rd hown1) (own_rd hri4) htx (HO3.out.ti.on hb4) (by omega) (fun m hm => by have := HS64.out m hm; omega))
        have HB4 := hide hb4
        clear hown1 hg1 hat1 hb4 hri4 hto4 hty4 htx hro3 gB3 g1 g2 hone hrdy
        refine HSA.out.mono ?_; rintro e w' ⟨rfl, nf, rfl⟩
        go_wp2_with fail
        refine (live19 _).mono ?_; rintro e w5 ⟨rfl, hb5⟩
        go_wp2
        go_ret
        exact ⟨rfl, below2 (below_drewN HB4.out nf) hb5 (Nat.le_refl _)⟩
theorem walk_QueueOrder (w : World) (r : Int) (hr : Fit r) (a : Option Addr) (c : Nat) (l : List (Bool × List Nat)) (hl : InA19 w a c l) :
    Calls Try.prog 4 #[.int .i64 r, .slice a l.length c] w fun e w' => e = .returned (.bool true) ∧ Below w.heap.size w w' := by
  by_cases h : r < 1 ∨ 16 < r
  · exact order_live r h hl
  · obtain ⟨R, rfl⟩ := Int.eq_ofNat_of_zero_le (show 0 ≤ r by omega)
    exact order_in R (by omega) (by omega) hl
end Go.Proofs.Ytfcappddncnglaa
