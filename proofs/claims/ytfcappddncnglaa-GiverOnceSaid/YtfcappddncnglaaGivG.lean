/- Layer 28's reference giver: Take. No conditions. -/
import Derived.Test.YtfcappddncnglaaGivF
import Derived.Deep.CutRange
namespace Go.Proofs.Ytfcappddncnglaa
open Go.RowKit No
set_option linter.unusedVariables false
attribute [local go_sem ↓] Go.wp_at_zero Go.wp_at_succ

def RTakeR (w : World) (B gx gs room : Nat) (L : List Nat) (s : Gst) (p : Pk) (F : Nat → Prop) (e : Ending) (w' : World) : Prop :=
  ∃ A c F', e = .returned (.slice A (takeT L s p).length c) ∧ Toks w' A (takeT L s p) ∧ RGv w' B gx gs room L (takeS room L s p) F' ∧ Turn F F' w w' ∧ NewA A w F'
/-- what holds in the midst of the reference's Take: the giver, the packet's own block. -/
structure Mid28 (w wr : World) (B gx gq gs room : Nat) (L : List Nat) (s : Gst) (F : Nat → Prop) (Fs : Nat → Nat → Prop) (tp cp : Nat) (cs : List Value) : Prop where
  g : RGvAt wr B gx gq gs room L s F Fs tp cp
  x : Blk wr w.heap.size 96 cs
  b : Below w.heap.size w wr
theorem Mid28.drewN {w wr : World} {B gx gq gs room : Nat} {L : List Nat} {s : Gst} {F : Nat → Prop} {Fs : Nat → Nat → Prop} {tp cp : Nat} {cs : List Value} (h : Mid28 w wr B gx gq gs room L s F Fs tp cp cs) (n : Nat) : Mid28 w (wr.drewN n) B gx gq gs room L s F Fs tp cp cs :=
  ⟨h.g.on (below_drewN (Below.refl _ _) n), h.x, below_drewN h.b n⟩
set_option maxHeartbeats 4000000 in
theorem rgv_take {w : World} {B gx gs room : Nat} {L : List Nat} {s : Gst} {F : Nat → Prop} (h : RGv w B gx gs room L s F) (hL : L.length ≤ 17592186044416) (hU : s.U.length ≤ 1099511627776) (hent : s.ent ≤ 1000000) (p : Pk) (A : Option Addr) (c : Nat) (hA : Rd w.heap.size w A (u8s p.d)) :
    Calls Try.prog 58 #[.pointer (some ⟨gx, 0, none⟩), .agg #[.int .i64 p.k, .int .u64 (p.T : Nat), .int .u64 (p.C : Nat), .int .u64 (p.R : Nat), .slice A p.d.length c]] w (RTakeR w B gx gs room L s p F) := by
  obtain ⟨gq, Fs, tp, cp, h⟩ := h
  obtain ⟨k, T, C, R, d⟩ := p
  dsimp only at hA ⊢
  have HM := hide (show ∀ cs, Mid28 w (w.alloc (.cells (List.toArray cs) 96)) B gx gq gs room L s F Fs tp cp cs from fun cs => ⟨h.on ((Below.refl _ w).alloc (Nat.le_refl _) _), Blk.new w _ cs, (Below.refl _ w).alloc (Nat.le_refl _) _⟩)
  have HA := hide hA
  have HH := hide h
  have HL := hide hL
  have HU := hide hU
  clear h hA hL hU
  go_enter Try.func58, Try.ntmps58
  go_wp2
  obtain ⟨w1, hw1⟩ : ∃ w1, w1 = w.alloc (.cells #[.int .i64 k, .int .u64 (T : Nat), .int .u64 (C : Nat), .int .u64 (R : Nat), .slice A d.length c] 96) := ⟨_, rfl⟩
  have HM1 := hide (HM.out [.int .i64 k, .int .u64 (T : Nat), .int .u64 (C : Nat), .int .u64 (R : Nat), .slice A d.length c])
  rw [show w.alloc (.cells (List.toArray [.int .i64 k, .int .u64 (T : Nat), .int .u64 (C : Nat), .int .u64 (R : Nat), .slice A d.length c]) 96) = w1 from hw1.symm] at HM1
  rw [← hw1]
  clear hw1 HM
  go_cut [31] from 5 to 31 (fun s31 wr => s31 = .bool (decide (k = 2) && entHit s ⟨k, T, C, R, d⟩) ∧ Hid (Mid28 w wr B gx gq gs room L s F Fs tp cp [.int .i64 k, .int .u64 (T : Nat), .int .u64 (C : Nat), .int .u64 (R : Nat), .slice A d.length c]))
  case first =>
    have c3 : w1.cell? ⟨gx, 3, none⟩ = some (.bool s.opn) := HM1.out.g.ob.blk.cell (i := 3) rfl
    have c5 : w1.cell? ⟨gx, 5, none⟩ = some (.int .u64 (tp : Nat)) := HM1.out.g.ob.blk.cell (i := 5) rfl
    have c6 : w1.cell? ⟨gx, 6, none⟩ = some (.int .u64 (cp : Nat)) := HM1.out.g.ob.blk.cell (i := 6) rfl
    have x0 : w1.cell? ⟨w.heap.size, 0, none⟩ = some (.int .i64 k) := HM1.out.x.cell (i := 0) rfl
    have x1 : w1.cell? ⟨w.heap.size, 1, none⟩ = some (.int .u64 (T : Nat)) := HM1.out.x.cell (i := 1) rfl
    have x2 : w1.cell? ⟨w.heap.size, 2, none⟩ = some (.int .u64 (C : Nat)) := HM1.out.x.cell (i := 2) rfl
    have hor : ((k == 2) = false ∧ (decide (k = 2) && entHit s ⟨k, T, C, R, d⟩) = false) ∨ (k = 2 ∧ s.opn = false ∧ (decide (k = 2) && entHit s ⟨k, T, C, R, d⟩) = false) ∨ (k = 2 ∧ s.opn = true ∧ ((T : Int) == (tp : Int)) = false ∧ (decide (k = 2) && entHit s ⟨k, T, C, R, d⟩) = false) ∨
        (k = 2 ∧ s.opn = true ∧ ((T : Int) == (tp : Int)) = true ∧ ∃ b, ((C : Int) == (cp : Int)) = b ∧ (decide (k = 2) && entHit s ⟨k, T, C, R, d⟩) = b) := by
      by_cases hk : k = 2
      · cases ho : s.opn with
        | false => exact .inr (.inl ⟨hk, rfl, by unfold entHit; simp [ho]⟩)
        | true =>
          obtain ⟨n1, n2⟩ := HM1.out.g.now ho
          by_cases ht : T = tp
          · refine .inr (.inr (.inr ⟨hk, rfl, by simp [ht], _, rfl, ?_⟩))
            unfold entHit
            rw [ho, ← n1, ← n2, ht]
            by_cases hc : C = cp
            · simp [hk, hc]
            · have e1 : (cp == C) = false := by simp; omega
              have e2 : ((C : Int) == (cp : Int)) = false := by simp; omega
              rw [e1, e2]; simp
          · refine .inr (.inr (.inl ⟨hk, rfl, by simp; omega, ?_⟩))
            have ht2 : ¬ tp = T := fun e => ht e.symm
            unfold entHit
            rw [← n1]
            simp [ht2]
      · exact .inl ⟨by simp [hk], by simp [hk]⟩
    clear HH HL HU HA
    rcases hor with ⟨hk, he⟩ | ⟨hk, ho, he⟩ | ⟨hk, ho, ht, he⟩ | ⟨hk, ho, ht, b, hc, he⟩
    · go_quiet (fail)
      go_wp2
      go_meet
      case rel => exact ⟨by rw [he], HM1.out.drewN _⟩
    all_goals
      subst hk
      rw [ho] at c3
      go_quiet (fail)
      go_wp2
      go_meet
      case rel => exact ⟨by rw [he], HM1.out.drewN _⟩
  case rest =>
    obtain ⟨rfl, HM2⟩ := hcut
    cases hhit : (decide (k = 2) && entHit s ⟨k, T, C, R, d⟩) with
    | true =>
      have hk : k = 2 := by simp at hhit; exact hhit.1
      have he : entHit s ⟨k, T, C, R, d⟩ = true := by simp at hhit; exact hhit.2
      subst hk
      have eS : takeS room L s ⟨2, T, C, R, d⟩ = (if pushE room s.q d = 0 then { s with q := pushL room s.q d, opn := false, has := true, last := T, ent := s.ent + 1 } else s) := by unfold takeS entS; rw [if_pos rfl, if_pos he]
      have eT : takeT L s ⟨2, T, C, R, d⟩ = [] := by unfold takeT; rw [if_pos rfl, if_pos he]
      have ho : s.opn = true := by unfold entHit at he; simp at he; exact he.1.1
      have hxlt : gx < w.heap.size := HH.out.ob.blk.lt
      have HNF : Hid (∀ i, i < 2 → Fs i w.heap.size → False) := fun i hi hf => absurd (HH.out.ob.fs i hi _ hf).2 (Nat.lt_irrefl _)
      have HPU := hide (rque_push (w := wc.drew) (HM2.out.drewN 1).g.q A c d ((HA.out.below (HM2.out.drewN 1).b (Nat.le_refl _)).more (HM2.out.drewN 1).b.size))
      have HPF := hide (fun (w4 : World) (F' : Nat → Prop) (hqu : RQu w4 B gq room (pushL room s.q d) F') (ht : Turn (Fs 0) F' wc.drew w4) => (HM2.out.drewN 1).g.ob.put (p := 0) (by omega) ht hqu.1)
      have HPX := hide (fun (w4 : World) (F' : Nat → Prop) (ht : Turn (Fs 0) F' wc.drew w4) => (HM2.out.drewN 1).x.kept (ht.block w.heap.size (HM2.out.drewN 1).x.lt (fun hf => HNF.out 0 (by omega) hf)))
      have HES := hide eS
      have HET := hide eT
      have s0 : wc.cell? ⟨gx, 0, none⟩ = some (.pointer (some ⟨gq, 0, none⟩)) := HM2.out.g.ob.blk.cell (i := 0) rfl
      have s4 : wc.cell? ⟨w.heap.size, 4, none⟩ = some (.slice A d.length c) := HM2.out.x.cell (i := 4) rfl
      clear hhit he eS eT
      by_cases hpe : pushE room s.q d = 0
      · have HPE := hide hpe
        rw [hpe] at HPU
        clear hpe
        go_wp2
        go_region_held3 (fun w' => w'.cell? ⟨gx, 0, none⟩ = some (.pointer (some ⟨gq, 0, none⟩)) ∧ w'.cell? ⟨w.heap.size, 4, none⟩ = some (.slice A d.length c)) (first
          | exact ⟨s0, s4⟩
          | exact ⟨p0, p4⟩
          | go_keep)
         ((first
          | (go_at_call 22; (with_reducible refine HPU.out.mono ?_); rintro e w4 ⟨F', rfl, hqu, ht4⟩; have p0 : w4.cell? ⟨gx, 0, none⟩ = some (.pointer (some ⟨gq, 0, none⟩)) := (HPF.out w4 F' hqu ht4).1.blk.cell (i := 0) rfl; have p4 : w4.cell? ⟨w.heap.size, 4, none⟩ = some (.slice A d.length c) := (HPX.out w4 F' ht4).cell (i := 4) rfl)))
        obtain ⟨hob, htu, hkp⟩ := HPF.out w4 F' hqu ht4
        have hxx := HPX.out w4 F' ht4
        have c1 : w4.cell? ⟨w.heap.size, 1, none⟩ = some (.int .u64 (T : Nat)) := hxx.cell (i := 1) rfl
        have c3 : w4.cell? ⟨gx, 3, none⟩ = some (.bool s.opn) := hob.blk.cell (i := 3) rfl
        have c4 : w4.cell? ⟨gx, 4, none⟩ = some (.bool s.has) := hob.blk.cell (i := 4) rfl
        have c7 : w4.cell? ⟨gx, 7, none⟩ = some (.int .u64 (s.last : Nat)) := hob.blk.cell (i := 7) rfl
        have f3 := hob.blk.free 3
        have f4 := hob.blk.free 4
        have f7 := hob.blk.free 7
        have hne : gx ≠ w.heap.size := by omega
        obtain ⟨q1, q2, q3⟩ := hob.set3d 3 (.bool false) 4 (.bool true) 7 (.int .u64 (T : Nat))
        obtain ⟨w5, hw5⟩ : ∃ w5, w5 = (((w4.setCell ⟨gx, 3, none⟩ (.bool false)).setCell ⟨gx, 4, none⟩ (.bool true)).setCell ⟨gx, 7, none⟩ (.int .u64 (T : Nat))).drew := ⟨_, rfl⟩
        rw [← hw5] at q1 q2 q3
        have HOB := hide q1
        have HTU := hide ((Turn.of_below (HM2.out.drewN 1).b).trans (htu.trans q2))
        have HQU := hide (hqu.kept (fun k hk => q3 0 (by omega) k hk) q2.size)
        have HSR := hide (((HM2.out.drewN 1).g.src.kept (hkp 1 (by omega) (by omega)) ht4.size).kept (fun k hk => q3 1 (by omega) k hk) q2.size)
        have d8 : w5.cell? ⟨gx, 8, none⟩ = some (.int .i64 (s.ent : Nat)) := q1.blk.cell (i := 8) rfl
        have g8 := q1.blk.free 8
        have HW5 := hide hw5
        clear hob htu hkp hxx hqu ht4 p0 p4 s0 s4 HPU HPF HPX q1 q2 q3 hw5
        go_wp2
        go_region_held3 (fun w' => w'.cell? ⟨w.heap.size, 1, none⟩ = some (.int .u64 (T : Nat))) (go_keep) (fail)
        all_goals
          rw [← HW5.out]
          obtain ⟨v1, v2, v3⟩ := HOB.out.set 8 (.int .i64 ((s.ent + 1 : Nat) : Int))
          have HV1 := hide v1
          have HTV := hide (HTU.out.trans v2)
          have HQV := hide (HQU.out.kept (fun k hk => v3 0 (by omega) k hk) v2.size)
          have HSV := hide (HSR.out.kept (fun k hk => v3 1 (by omega) k hk) v2.size)
          clear v1 v2 v3
          go_wp2
          go_ret
          show RTakeR _ _ _ _ _ _ _ _ _ _ _
          unfold RTakeR
          rw [HES.out, HET.out, if_pos HPE.out]
          exact ⟨none, 0, _, rfl, Toks.nil _ _, ⟨gq, _, tp, cp, HV1.out, (fun h => by cases h), HQV.out, HSV.out⟩, HTV.out, newA_none _ _⟩
      · have HPE := hide hpe
        have hz : ¬ ((pushE room s.q d : Nat) : Int) = 0 := by omega
        rw [pushL_not hpe] at HPU HPF
        clear hpe
        go_wp2
        go_region_held3 (fun w' => w'.cell? ⟨gx, 0, none⟩ = some (.pointer (some ⟨gq, 0, none⟩)) ∧ w'.cell? ⟨w.heap.size, 4, none⟩ = some (.slice A d.length c)) (first
          | exact ⟨s0, s4⟩
          | exact ⟨p0, p4⟩
          | go_keep)
         ((first
          | (go_at_call 22; (with_reducible refine HPU.out.mono ?_); rintro e w4 ⟨F', rfl, hqu, ht4⟩; have p0 : w4.cell? ⟨gx, 0, none⟩ = some (.pointer (some ⟨gq, 0, none⟩)) := (HPF.out w4 F' hqu ht4).1.blk.cell (i := 0) rfl; have p4 : w4.cell? ⟨w.heap.size, 4, none⟩ = some (.slice A d.length c) := (HPX.out w4 F' ht4).cell (i := 4) rfl)))
        go_wp2
        go_ret
        obtain ⟨hob, htu, hkp⟩ := HPF.out w4 F' hqu ht4
        show RTakeR _ _ _ _ _ _ _ _ _ _ _
        unfold RTakeR
        rw [HES.out, HET.out, if_neg HPE.out]
        exact ⟨none, 0, _, rfl, Toks.nil _ _, ⟨gq, _, tp, cp, hob, HM2.out.g.now, hqu, (HM2.out.drewN 1).g.src.kept (hkp 1 (by omega) (by omega)) ht4.size⟩, (Turn.of_below (HM2.out.drewN 1).b).trans htu, newA_none _ _⟩
    | false =>
      have hxlt : gx < w.heap.size := HH.out.ob.blk.lt
      have HNH : Hid (k = 2 → entHit s ⟨k, T, C, R, d⟩ = false) := fun hk => by rw [hk] at hhit ⊢; simpa using hhit
      clear hhit
      go_upto_region 6 with (fail)
      go_cut [80] from 58 to 80 (fun s80 wr => s80 = .bool (decide (k = 0 ∨ k = 2) && oldG s ⟨k, T, C, R, d⟩) ∧ Hid (Mid28 w wr B gx gq gs room L s F Fs tp cp [.int .i64 k, .int .u64 (T : Nat), .int .u64 (C : Nat), .int .u64 (R : Nat), .slice A d.length c]))
      case first =>
        have c4 : wc.cell? ⟨gx, 4, none⟩ = some (.bool s.has) := HM2.out.g.ob.blk.cell (i := 4) rfl
        have c7 : wc.cell? ⟨gx, 7, none⟩ = some (.int .u64 (s.last : Nat)) := HM2.out.g.ob.blk.cell (i := 7) rfl
        have x0 : wc.cell? ⟨w.heap.size, 0, none⟩ = some (.int .i64 k) := HM2.out.x.cell (i := 0) rfl
        have x1 : wc.cell? ⟨w.heap.size, 1, none⟩ = some (.int .u64 (T : Nat)) := HM2.out.x.cell (i := 1) rfl
        have hor : ((k == 0) = false ∧ (k == 2) = false ∧ (decide (k = 0 ∨ k = 2) && oldG s ⟨k, T, C, R, d⟩) = false) ∨ ((k = 0 ∨ k = 2 ∧ (k == 0) = false) ∧ ((s.has = false ∧ (decide (k = 0 ∨ k = 2) && oldG s ⟨k, T, C, R, d⟩) = false) ∨ (s.has = true ∧ ∃ b, ((T : Int) == (s.last : Int)) = b ∧ (decide (k = 0 ∨ k = 2) && oldG s ⟨k, T, C, R, d⟩) = b))) := by
          by_cases hk : k = 0 ∨ k = 2
          · refine .inr ⟨?_, ?_⟩
            · rcases hk with hk | hk
              · exact .inl hk
              · exact .inr ⟨hk, by rw [hk]; rfl⟩
            · unfold oldG
              cases ho : s.has with
              | false => exact .inl ⟨rfl, by simp⟩
              | true =>
                refine .inr ⟨rfl, _, rfl, ?_⟩
                rw [decide_eq_true hk]
                by_cases e : T = s.last
                · simp [e]
                · have e1 : (T == s.last) = false := by simp; exact e
                  have e2 : ((T : Int) == (s.last : Int)) = false := by simp; omega
                  rw [e1, e2]; simp
          · exact .inl ⟨by simp; omega, by simp; omega, by simp [hk]⟩
        clear HH HL HU HA HNH
        rcases hor with ⟨hk0, hk2, he⟩ | ⟨hk | ⟨hk, hk0⟩, ⟨ho, he⟩ | ⟨ho, b, ht, he⟩⟩
        · go_wp2
          go_quiet (fail)
          go_wp2
          go_meet
          case rel => exact ⟨by rw [he], HM2.out.drewN _⟩
        all_goals
          subst hk
          rw [ho] at c4
          go_wp2
          go_quiet (fail)
          go_wp2
          go_meet
          case rel => exact ⟨by rw [he], HM2.out.drewN _⟩
      case rest =>
        obtain ⟨rfl, HM3⟩ := hcut
        cases hold : (decide (k = 0 ∨ k = 2) && oldG s ⟨k, T, C, R, d⟩) with
        | true =>
          have hk : k = 0 ∨ k = 2 := by simp at hold; exact hold.1
          have ho : oldG s ⟨k, T, C, R, d⟩ = true := by simp at hold; exact hold.2
          have eS : takeS room L s ⟨k, T, C, R, d⟩ = s := by
            unfold takeS entS
            rcases hk with rfl | rfl
            · rw [if_neg (show ¬ (0 : Int) = 2 by decide), if_pos rfl, if_pos ho]
            · rw [if_pos rfl, if_neg (by rw [HNH.out rfl]; simp)]
          have eT : takeT L s ⟨k, T, C, R, d⟩ = knownT s := by
            unfold takeT
            rcases hk with rfl | rfl
            · rw [if_neg (show ¬ (0 : Int) = 2 by decide), if_pos rfl, if_pos ho]
            · rw [if_pos rfl, if_neg (by rw [HNH.out rfl]; simp), if_pos ho]
          have HES := hide eS
          have HET := hide eT
          have HKN := hide (fun n => rgv_known (s := s) (w := wc.drewN n) ⟨gq, Fs, tp, cp, (HM3.out.drewN n).g⟩)
          clear eS eT hk ho hold
          go_wp2_with fail
          refine (HKN.out 0).mono ?_; rintro e w2 ⟨A2, c2, rfl, ht, hb, hn⟩
          go_wp2
          go_ret
          show RTakeR _ _ _ _ _ _ _ _ _ _ _
          unfold RTakeR
          rw [HES.out, HET.out]
          exact ⟨A2, c2, F, rfl, ht, RGv.on ⟨gq, Fs, tp, cp, HM3.out.g⟩ hb, (Turn.of_below HM3.out.b).trans (Turn.of_below hb), hn.lift HM3.out.b.size HM3.out.g.ob.foot⟩
        | false =>
          have HNO : Hid (k = 0 ∨ k = 2 → oldG s ⟨k, T, C, R, d⟩ = false) := fun hk => by rw [decide_eq_true hk] at hold; simpa using hold
          clear hold
          have x0 : wc.cell? ⟨w.heap.size, 0, none⟩ = some (.int .i64 k) := HM3.out.x.cell (i := 0) rfl
          by_cases hk : k = 0
          · subst hk
            have ho := HNO.out (.inl rfl)
            have eS : takeS room L s ⟨0, T, C, R, d⟩ = chalS L s T := by unfold takeS; rw [if_neg (show ¬ (0 : Int) = 2 by decide), if_pos rfl, if_neg (by rw [ho]; simp)]
            have eT : takeT L s ⟨0, T, C, R, d⟩ = chalT L s T := by unfold takeT; rw [if_neg (show ¬ (0 : Int) = 2 by decide), if_pos rfl, if_neg (by rw [ho]; simp)]
            have HES := hide eS
            have HET := hide eT
            have HT := hide (fun W t => toks_one W t 96)
            clear eS eT ho HNH HNO
            go_upto_region 10 with (fail)
            clear x0
            go_cut [99] from 86 to 99 (fun s99 wr => s99 = .bool (!chalHit s T) ∧ Hid (Mid28 w wr B gx gq gs room L s F Fs tp cp [.int .i64 0, .int .u64 (T : Nat), .int .u64 (C : Nat), .int .u64 (R : Nat), .slice A d.length c]))
            case first =>
              have c3 : wc.cell? ⟨gx, 3, none⟩ = some (.bool s.opn) := HM3.out.g.ob.blk.cell (i := 3) rfl
              have c5 : wc.cell? ⟨gx, 5, none⟩ = some (.int .u64 (tp : Nat)) := HM3.out.g.ob.blk.cell (i := 5) rfl
              have x1 : wc.cell? ⟨w.heap.size, 1, none⟩ = some (.int .u64 (T : Nat)) := HM3.out.x.cell (i := 1) rfl
              have hor : (s.opn = false ∧ (!chalHit s T) = true) ∨ (s.opn = true ∧ ∃ b, ((tp : Int) != (T : Int)) = b ∧ (!chalHit s T) = b) := by
                unfold chalHit
                cases ho : s.opn with
                | false => exact .inl ⟨rfl, by simp⟩
                | true =>
                  refine .inr ⟨rfl, _, rfl, ?_⟩
                  obtain ⟨n1, n2⟩ := HM3.out.g.now ho
                  rw [← n1]
                  by_cases e : tp = T
                  · simp [e]
                  · have e1 : (tp == T) = false := by simp; exact e
                    have e2 : ((tp : Int) != (T : Int)) = true := by simp; omega
                    rw [e1, e2]; simp
              clear HH HL HU HA HM2 HES HET HT
              rcases hor with ⟨ho, he⟩ | ⟨ho, b, ht, he⟩
              all_goals
                rw [ho] at c3
                go_wp2
                go_quiet (fail)
                go_wp2
                go_meet
                case rel => exact ⟨by rw [he], HM3.out.drewN _⟩
            case rest =>
              obtain ⟨rfl, HM4⟩ := hcut
              cases hhit : chalHit s T with
              | true =>
                have ho : s.opn = true := by unfold chalHit at hhit; simp at hhit; exact hhit.1
                have ht : s.t = T := by unfold chalHit at hhit; simp at hhit; exact hhit.2
                have e1 : chalS L s T = s := by unfold chalS; rw [if_pos hhit]
                have e2 : chalT L s T = [(1, T, s.c, s.R)] := by unfold chalT; rw [e1]
                have c2 : wc.cell? ⟨gx, 2, none⟩ = some (.int .u64 (s.R : Nat)) := HM4.out.g.ob.blk.cell (i := 2) rfl
                have c5 : wc.cell? ⟨gx, 5, none⟩ = some (.int .u64 (T : Nat)) := by rw [← ht, ← (HM4.out.g.now ho).1]; exact HM4.out.g.ob.blk.cell (i := 5) rfl
                have c6 : wc.cell? ⟨gx, 6, none⟩ = some (.int .u64 (s.c : Nat)) := by rw [← (HM4.out.g.now ho).2]; exact HM4.out.g.ob.blk.cell (i := 6) rfl
                have HE1 := hide e1
                have HE2 := hide e2
                clear hhit ho ht e1 e2 HM3 HM2 HM1 HH HL HU HA
                go_wp2
                go_region_held3 (fun w' => w'.cell? ⟨gx, 2, none⟩ = some (.int .u64 (s.R : Nat)) ∧ w'.cell? ⟨gx, 5, none⟩ = some (.int .u64 (T : Nat)) ∧ w'.cell? ⟨gx, 6, none⟩ = some (.int .u64 (s.c : Nat))) (go_keep) (fail)
                go_wp2
                go_ret
                show RTakeR _ _ _ _ _ _ _ _ _ _ _
                unfold RTakeR
                rw [HES.out, HET.out, HE1.out, HE2.out]
                exact ⟨_, _, F, rfl, HT.out _ (1, T, s.c, s.R), RGv.on ⟨gq, Fs, tp, cp, HM4.out.g⟩ ((Below.refl _ _).drew.alloc (by simp) _), ((Turn.of_below HM4.out.b).drew).alloc _, newA_at HM4.out.b.size HM4.out.g.ob.foot (Nat.le_refl _)⟩
              | false =>
                have e1 : chalS L s T = { s with opn := true, t := T, c := nextN L s.U.length, U := s.U ++ [nextN L s.U.length] } := by unfold chalS; rw [if_neg (by rw [hhit]; simp)]
                have e2 : chalT L s T = [(1, T, nextN L s.U.length, s.R)] := by unfold chalT; rw [e1]
                have c1 : wc.cell? ⟨gx, 1, none⟩ = some (.pointer (some ⟨gs, 0, none⟩)) := HM4.out.g.ob.blk.cell (i := 1) rfl
                have x1 : wc.cell? ⟨w.heap.size, 1, none⟩ = some (.int .u64 (T : Nat)) := HM4.out.x.cell (i := 1) rfl
                have HNF : Hid (∀ i, i < 2 → Fs i w.heap.size → False) := fun i hi hf => absurd (HH.out.ob.fs i hi _ hf).2 (Nat.lt_irrefl _)
                have HN := hide (rsrc_next wc.drew B gs L s.U (Fs 1) (HM4.out.drewN 1).g.src HL.out HU.out)
                have HPF := hide (fun (w4 : World) (F' : Nat → Prop) (hs : RSrc w4 B gs L (s.U ++ [nextN L s.U.length]) F') (ht : Turn (Fs 1) F' wc.drew w4) => (HM4.out.drewN 1).g.ob.put (p := 1) (by omega) ht hs.1)
                have HPX := hide (fun (w4 : World) (F' : Nat → Prop) (ht : Turn (Fs 1) F' wc.drew w4) => (HM4.out.drewN 1).x.kept (ht.block w.heap.size (HM4.out.drewN 1).x.lt (fun hf => HNF.out 1 (by omega) hf)))
                have HE1 := hide e1
                have HE2 := hide e2
                have hne : gx ≠ w.heap.size := by omega
                clear hhit e1 e2 HM3 HM2 HM1 HH HL HU HA
                go_wp2
                go_region_held3 (fun w' => w'.cell? ⟨gx, 1, none⟩ = some (.pointer (some ⟨gs, 0, none⟩)) ∧ w'.cell? ⟨w.heap.size, 1, none⟩ = some (.int .u64 (T : Nat))) (first
                  | exact ⟨c1, x1⟩
                  | exact ⟨p1, y1⟩
                  | exact ⟨q1, by simp [World.cell?_setCell_far, hne, y1]⟩
                  | exact ⟨q2, by simp [World.cell?_setCell_far, hne, y1]⟩
                  | exact ⟨q3, by simp [World.cell?_setCell_far, hne, y1]⟩
                  | go_keep)
                 ((first
                  | (go_at_call 75; (with_reducible refine HN.out.mono ?_); rintro e w4 ⟨F', rfl, hsr, ht4⟩; have p1 : w4.cell? ⟨gx, 1, none⟩ = some (.pointer (some ⟨gs, 0, none⟩)) := (HPF.out w4 F' hsr ht4).1.blk.cell (i := 1) rfl; have y1 : w4.cell? ⟨w.heap.size, 1, none⟩ = some (.int .u64 (T : Nat)) := (HPX.out w4 F' ht4).cell (i := 1) rfl; have c3 : w4.cell? ⟨gx, 3, none⟩ = some (.bool s.opn) := (HPF.out w4 F' hsr ht4).1.blk.cell (i := 3) rfl; have c5 : w4.cell? ⟨gx, 5, none⟩ = some (.int .u64 (tp : Nat)) := (HPF.out w4 F' hsr ht4).1.blk.cell (i := 5) rfl; have c6 : w4.cell? ⟨gx, 6, none⟩ = some (.int .u64 (cp : Nat)) := (HPF.out w4 F' hsr ht4).1.blk.cell (i := 6) rfl; have f3 := (HPF.out w4 F' hsr ht4).1.blk.free 3; have f5 := (HPF.out w4 F' hsr ht4).1.blk.free 5; have f6 := (HPF.out w4 F' hsr ht4).1.blk.free 6; have q1 := ((HPF.out w4 F' hsr ht4).1.set 3 (.bool true)).1.blk.cell (i := 1) (v := .pointer (some ⟨gs, 0, none⟩)) rfl; have q2 := ((HPF.out w4 F' hsr ht4).1.set2 3 (.bool true) 5 (.int .u64 (T : Nat))).1.blk.cell (i := 1) (v := .pointer (some ⟨gs, 0, none⟩)) rfl; have q3 := ((HPF.out w4 F' hsr ht4).1.set3 3 (.bool true) 5 (.int .u64 (T : Nat)) 6 (.int .u64 (nextN L s.U.length : Nat))).1.blk.cell (i := 1) (v := .pointer (some ⟨gs, 0, none⟩)) rfl)))
                obtain ⟨r1, r2, r3⟩ := (HPF.out w4 F' hsr ht4).1.set3 3 (.bool true) 5 (.int .u64 (T : Nat)) 6 (.int .u64 (nextN L s.U.length : Nat))
                obtain ⟨w5, hw5⟩ : ∃ w5, w5 = (((w4.setCell ⟨gx, 3, none⟩ (.bool true)).setCell ⟨gx, 5, none⟩ (.int .u64 (T : Nat))).setCell ⟨gx, 6, none⟩ (.int .u64 (nextN L s.U.length : Nat))) := ⟨_, rfl⟩
                rw [← hw5] at r1 r2 r3
                have HOB := hide r1
                have HTU := hide ((Turn.of_below (HM4.out.drewN 1).b).trans ((HPF.out w4 F' hsr ht4).2.1.trans r2))
                have HSR := hide (hsr.kept (fun k hk => r3 1 (by omega) k hk) r2.size)
                have HQU := hide (((HM4.out.drewN 1).g.q.kept ((HPF.out w4 F' hsr ht4).2.2 0 (by omega) (by omega)) ht4.size).kept (fun k hk => r3 0 (by omega) k hk) r2.size)
                have d2 : w5.cell? ⟨gx, 2, none⟩ = some (.int .u64 (s.R : Nat)) := r1.blk.cell (i := 2) rfl
                have d5 : w5.cell? ⟨gx, 5, none⟩ = some (.int .u64 (T : Nat)) := r1.blk.cell (i := 5) rfl
                have d6 : w5.cell? ⟨gx, 6, none⟩ = some (.int .u64 (nextN L s.U.length : Nat)) := r1.blk.cell (i := 6) rfl
                rw [← hw5]
                clear hsr ht4 p1 y1 c3 c5 c6 f3 f5 f6 q1 q2 q3 r1 r2 r3 hw5 HPF HPX HN c1 x1
                go_wp2
                go_region_held3 (fun w' => w'.cell? ⟨gx, 2, none⟩ = some (.int .u64 (s.R : Nat)) ∧ w'.cell? ⟨gx, 5, none⟩ = some (.int .u64 (T : Nat)) ∧ w'.cell? ⟨gx, 6, none⟩ = some (.int .u64 (nextN L s.U.length : Nat))) (go_keep) (fail)
                go_wp2
                go_ret
                show RTakeR _ _ _ _ _ _ _ _ _ _ _
                unfold RTakeR
                rw [HES.out, HET.out, HE1.out, HE2.out]
                exact ⟨_, _, _, rfl, HT.out _ (1, T, nextN L s.U.length, s.R), RGv.on ⟨gq, _, T, nextN L s.U.length, HOB.out, (fun _ => ⟨rfl, rfl⟩), HQU.out, HSR.out⟩ ((Below.refl _ _).drew.alloc (by simp) _), (HTU.out.drew).alloc _, newA_at HTU.out.size HOB.out.foot (Nat.le_refl _)⟩
          · have hkb : (k != 0) = true := by simp; exact hk
            have eS : takeS room L s ⟨k, T, C, R, d⟩ = s := by
              unfold takeS entS
              by_cases h2 : k = 2
              · rw [if_pos h2, if_neg (by rw [HNH.out h2]; simp)]
              · rw [if_neg h2, if_neg hk]
            have eT : takeT L s ⟨k, T, C, R, d⟩ = [] := by
              unfold takeT
              by_cases h2 : k = 2
              · rw [if_pos h2, if_neg (by rw [HNH.out h2]; simp), if_neg (by rw [HNO.out (.inr h2)]; simp)]
              · rw [if_neg h2, if_neg hk]
            have HES := hide eS
            have HET := hide eT
            clear eS eT hk
            go_wp2
            go_ret
            show RTakeR _ _ _ _ _ _ _ _ _ _ _
            unfold RTakeR
            rw [HES.out, HET.out]
            exact ⟨none, 0, F, rfl, Toks.nil _ _, ⟨gq, Fs, tp, cp, HM3.out.g⟩, Turn.of_below HM3.out.b, newA_none _ _⟩
end Go.Proofs.Ytfcappddncnglaa
