/- Layer 21's reference hearer: enter, all goes. No conditions. -/
import Derived.Test.YtnbhgeodbpelgaaHeI
import Derived.Deep.RegionLaw
import Derived.StillTailTactics
import Derived.Deep.Cut
namespace Go.Proofs.Ytnbhgeodbpelgaa
open Go.RowKit
set_option linter.unusedVariables false
attribute [local go_sem ↓] Go.wp_at_zero Go.wp_at_succ

section
variable {w w' : World} {B gx gq gl gt room : Nat} {s : Hst} {F : Nat → Prop} {Fs : Nat → Nat → Prop}
set_option maxRecDepth 100000 in
set_option maxHeartbeats 8000000 in
theorem rhe_enter_in (h : RHeAt w B gx gq gl gt room s F Fs) (hd : s.ent ≤ 1000000) (hT : tot s.t ≤ 1000000) (hf : ¬ room - s.q.length = 0) (hz : ¬ (bestH s).2 = 0) (hen : s.led.enough ((bestH s).2 : Nat) = true) (hp : pushE room s.q (bestH s).1 = 0) :
    Calls Try.prog 84 #[.pointer (some ⟨gx, 0, none⟩)] w (REnterR w B gx gq gl room { s with q := pushL room s.q (bestH s).1, ent := s.ent + 1, t := [], led := s.led.set } F) := by
  have HA := hide h
  have HBE := hide (rhe_best (h.on (Below.refl w.heap.size w).drew) hT)
  obtain ⟨⟨bm, bc⟩, hbst⟩ : ∃ b, b = bestH s := ⟨_, rfl⟩
  rw [← hbst] at HBE hz hen hp
  rw [← hbst]
  dsimp only at hz hen hp
  obtain ⟨_, _, c2, c3, _⟩ := h.cells
  unfold BestR at HBE
  dsimp only at HBE
  unfold REnterR
  have hfn : ¬ room ≤ s.q.length := by omega
  have hfl : s.q.length < room := by omega
  have hfd : decide (room ≤ s.q.length) = false := by simp; omega
  have hz0 : ((bc : Int) == 0) = false := by rw [beq_eq_false_iff_ne]; omega
  have HP := hide hp
  have HF3 := hide (And.intro hfn (And.intro hfl hfd))
  have HEN0 := hide hen
  clear h hbst hf hz hfn hfl hfd hen hp
  go_enter Try.func84, Try.ntmps84
  go_wp2
  go_region_held3 (fun W => W.cell? ⟨gx, 2, none⟩ = some (.pointer (some ⟨gt, 0, none⟩)) ∧ W.cell? ⟨gx, 3, none⟩ = some (.int .i64 (s.ent : Nat))) (first
      | exact ⟨((HA.out.on (below2 (Below.refl w.heap.size w).drew hb5 (Nat.le_refl _))).cells.2.2.1), ((HA.out.on (below2 (Below.refl w.heap.size w).drew hb5 (Nat.le_refl _))).cells.2.2.2.1)⟩
      | go_keep)
    ((first
      | (go_at_call 50; (with_reducible refine HBE.out.mono ?_); rintro e w5 ⟨A5, c5, rfl, ho5, hb5⟩)))
  have hb05 := below2 (Below.refl w.heap.size w).drew hb5 (Nat.le_refl _)
  have h5 := HA.out.on hb05
  have H5 := hide h5
  have T5 := hide (Turn.of_below (F := F) hb05)
  obtain ⟨d0, d1, _, _, _⟩ := h5.cells
  obtain ⟨V, cV, r0, r1⟩ := h5.row
  have h5d := h5.on (Below.refl w5.heap.size w5).drew
  have HEN := hide (rled_enough w5.drew gl s.led ((bc : Nat) : Int) h5d.l)
  rw [HEN0.out] at HEN
  have HQ5 := hide (rque_push h5d.q A5 c5 bm (own_rd ho5))
  rw [HP.out] at HQ5
  obtain ⟨hfn, hfl, hfd⟩ := HF3.out
  have H5D := hide h5d
  clear ho5 hb5 hb05 h5 c2 c3 h5d HBE
  go_wp2
  have HEN2 := hide (HEN.out.mono (R' := fun e w' => e = Ending.returned (Value.bool true) ∧ w' = w5.drew) fun _ _ ⟨a, b⟩ => ⟨a, b.symm⟩)
  clear HEN
  go_still_tail 35, (by kernel_rfl)
  still_call HEN2.out
  repeat still_step
  refine wpStill_nil ?_
  change wpList _ _ _ _ _ w5.drew
  go_wp2_with fail
  refine HQ5.out.mono ?_; rintro e w7 ⟨F7, rfl, hq7, ht7⟩
  obtain ⟨F8, Fs8, h8, t8⟩ := H5D.out.que hq7 ht7
  have H8 := hide h8
  have T8 := hide ((T5.out.trans ((Turn.of_below (F := F) (Below.refl w5.heap.size w5).drew))).trans t8)
  have x3 : w7.cell? ⟨gx, 3, none⟩ = some (.int .i64 (s.ent : Nat)) := h8.cells.2.2.2.1
  have f3 := h8.ob.blk.free 3
  obtain ⟨h9, t9⟩ := h8.setEnt (s.ent + 1)
  obtain ⟨w9, hw9⟩ : ∃ w9, w9 = w7.setCell ⟨gx, 3, none⟩ (.int .i64 ((s.ent + 1 : Nat) : Int)) := ⟨_, rfl⟩
  rw [← hw9] at h9 t9
  have hw9b : w7.setCell ⟨gx, 3, none⟩ (.int .i64 ((s.ent : Int) + 1)) = w9 := by rw [hw9]; rfl
  have y2 := h9.cells.2.2.1
  have f2 := h9.ob.blk.free 2
  have glt := h9.ob.blk.lt
  obtain ⟨Fa, Fsa, ha, ta⟩ := h9.fresh
  obtain ⟨wa, hwa⟩ : ∃ wa, wa = (w9.alloc (.cells #[.slice none 0 0] 85)).setCell ⟨gx, 2, none⟩ (.pointer (some ⟨w9.heap.size, 0, none⟩)) := ⟨_, rfl⟩
  rw [← hwa] at ha ta
  have z1 := ha.cells.2.1
  have hwx : (w9.setCell ⟨gx, 2, none⟩ (.pointer (some ⟨w9.heap.size, 0, none⟩))).alloc (.cells #[.slice none 0 0] 85) = wa := by
    rw [hwa]
    first
      | simp [go_sem, glt]
      | (have hne : w9.heap.size ≠ gx := by omega
         simp [go_sem, glt, hne])
  have HMK := hide (rled_set wa gl s.led ha.l)
  have HH := hide ha
  have TT := hide ((T8.out.trans t9).trans ta)
  have HW9 := hide hw9b
  have HWA := hide hwx
  clear hq7 ht7 h8 t8 d0 d1 r0 r1 hfn hfl hfd HF3 HEN2 HEN0 HQ5 hz0 HA h9 t9 hw9 hw9b ha ta hwa hwx
  go_upto_region 3 with (fail)
  rw [HW9.out]
  clear x3 f3
  go_upto_region 4 with (fail)
  rw [HWA.out]
  clear y2 f2 glt
  go_wp2_with fail
  refine HMK.out.mono ?_; rintro e w12 ⟨rfl, hl12, hg12⟩
  obtain ⟨F13, Fs13, h13, t13⟩ := HH.out.led hl12 hg12 (Led.ok_set HH.out.ok)
  have H13 := hide h13
  have T13 := hide (TT.out.trans t13)
  clear hl12 hg12 h13 t13 HMK
  go_wp2
  go_returns
  exact ⟨rfl, _, _, _, H13.out, T13.out⟩
end
end Go.Proofs.Ytnbhgeodbpelgaa
