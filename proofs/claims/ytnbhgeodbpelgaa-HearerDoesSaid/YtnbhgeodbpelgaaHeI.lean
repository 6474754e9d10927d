/- Layer 21's reference hearer: enter. No conditions. -/
import Derived.Test.YtnbhgeodbpelgaaHeH
import Derived.Deep.RegionLaw
import Derived.Deep.Cut
namespace Go.Proofs.Ytnbhgeodbpelgaa
open Go.RowKit
set_option linter.unusedVariables false
attribute [local go_sem ↓] Go.wp_at_zero Go.wp_at_succ

section
variable {w w' : World} {B gx gq gl gt room : Nat} {s : Hst} {F : Nat → Prop} {Fs : Nat → Nat → Prop}
def REnterR (w : World) (B gx gq gl room : Nat) (s' : Hst) (F : Nat → Prop) (e : Ending) (w' : World) : Prop :=
  e = .returned (.tuple #[]) ∧ ∃ gt' F' Fs', RHeAt w' B gx gq gl gt' room s' F' Fs' ∧ Turn F F' w w'
/-- what stands behind the look at the tally: the best, in new memory. -/
theorem rhe_best (h : RHeAt w B gx gq gl gt room s F Fs) (hT : tot s.t ≤ 1000000) : Calls Try.prog 50 #[.pointer (some ⟨gt, 0, none⟩), .int .i64 ((s.ent : Int).tmod 2)] w (BestR (bestH s) w) := by
  rw [show (s.ent : Int).tmod 2 = ((s.ent % 2 : Nat) : Int) by rw [Int.tmod_eq_emod_of_nonneg (by omega)]; omega]
  exact rta_best h.t hT _
theorem quietH {P : Program} {f : FuncId} {args : Array Value} {w : World} {n : Nat} {v : Value} (h : Calls P f args (w.drewN n) fun e w' => e = .returned v ∧ w.drewN n = w') :
    Calls P f args (w.drewN n) fun e w'' => e = .returned v ∧ ∃ m, w'' = w.drewN m := h.mono fun _ _ ⟨he, hw⟩ => ⟨he, n, hw.symm⟩
set_option maxRecDepth 100000 in
set_option maxHeartbeats 4000000 in
theorem rhe_enter_not (h : RHeAt w B gx gq gl gt room s F Fs) (hd : s.ent ≤ 1000000) (hT : tot s.t ≤ 1000000) (hno : room - s.q.length = 0 ∨ (bestH s).2 = 0 ∨ s.led.enough ((bestH s).2 : Nat) = false) : Calls Try.prog 84 #[.pointer (some ⟨gx, 0, none⟩)] w (REnterR w B gx gq gl room s F) := by
  have HA := hide h
  have HBE := hide (rhe_best (h.on (Below.refl w.heap.size w).drew) hT)
  obtain ⟨⟨bm, bc⟩, hbst⟩ : ∃ b, b = bestH s := ⟨_, rfl⟩
  rw [← hbst] at HBE hno
  dsimp only at hno
  obtain ⟨_, _, c2, c3, _⟩ := h.cells
  have HRO := hide h.q.2.2.1
  unfold BestR at HBE
  dsimp only at HBE
  unfold REnterR
  have hor : (s.q.length : Int) ≥ (room : Int) ∨ (¬ (room : Int) ≤ (s.q.length : Int) ∧ bc = 0) ∨ (¬ (room : Int) ≤ (s.q.length : Int) ∧ ((bc : Int) == 0) = false ∧ s.led.enough (bc : Nat) = false) := by
    by_cases h1 : room ≤ s.q.length
    · exact .inl (by omega)
    · by_cases h2 : bc = 0
      · exact .inr (.inl ⟨by omega, h2⟩)
      · rcases hno with h3 | h3 | h3
        · omega
        · exact absurd h3 h2
        · exact .inr (.inr ⟨by omega, by rw [beq_eq_false_iff_ne]; omega, h3⟩)
  have HOR := hide hor
  clear h hbst hno hor
  go_enter Try.func84, Try.ntmps84
  go_wp2
  go_region_held3 (fun W => W.cell? ⟨gx, 2, none⟩ = some (.pointer (some ⟨gt, 0, none⟩)) ∧ W.cell? ⟨gx, 3, none⟩ = some (.int .i64 (s.ent : Nat))) (first
      | exact ⟨((HA.out.on (below2 (Below.refl w.heap.size w).drew hb5 (Nat.le_refl _))).cells.2.2.1), ((HA.out.on (below2 (Below.refl w.heap.size w).drew hb5 (Nat.le_refl _))).cells.2.2.2.1)⟩
      | go_keep)
    ((first
      | (go_at_call 50; (with_reducible refine HBE.out.mono ?_); rintro e w5 ⟨A5, c5, rfl, ho5, hb5⟩)))
  have hb05 := below2 (Below.refl w.heap.size w).drew hb5 (Nat.le_refl _)
  have h5 := HA.out.on hb05
  have H5 := hide h5
  have T5 := hide (Turn.of_below (F := F) hb05)
  obtain ⟨d0, d1, _, _, _⟩ := h5.cells
  obtain ⟨V, cV, r0, r1⟩ := h5.row
  clear ho5 hb5 hb05 h5 c2 c3
  rcases HOR.out with hf | ⟨hf, hz⟩ | ⟨hf, hz, hen⟩
  · go_wp2
    go_quiet (fail)
    go_wp2
    go_returns
    exact ⟨rfl, gt, _, _, H5.out.on (below_drewN (Below.refl _ _) _), T5.out.drewN _⟩
  · subst hz
    have hfn : ¬ room ≤ s.q.length := by omega
    have hfl : s.q.length < room := by omega
    have hfd : decide (room ≤ s.q.length) = false := by simp; omega
    go_wp2
    go_quiet (fail)
    go_wp2
    go_returns
    exact ⟨rfl, gt, _, _, H5.out.on (below_drewN (Below.refl _ _) _), T5.out.drewN _⟩
  · have HEN := hide (fun (n : Nat) => rled_enough (w5.drewN n) gl s.led ((bc : Nat) : Int) (show RLedAt (w5.drewN n) gl s.led from H5.out.l))
    rw [hen] at HEN
    have hfn : ¬ room ≤ s.q.length := by omega
    have hfl : s.q.length < room := by omega
    have hfd : decide (room ≤ s.q.length) = false := by simp; omega
    clear hen
    go_wp2
    go_quiet (first
      | (go_at_call 75; exact quietH (HEN.out _)))
    go_wp2
    go_returns
    exact ⟨rfl, gt, _, _, H5.out.on (below_drewN (Below.refl _ _) _), T5.out.drewN _⟩
set_option maxRecDepth 100000 in
set_option maxHeartbeats 4000000 in
/-- a message that the queue does not take. -/
theorem rhe_enter_long (h : RHeAt w B gx gq gl gt room s F Fs) (hd : s.ent ≤ 1000000) (hT : tot s.t ≤ 1000000) (hf : ¬ room - s.q.length = 0) (hz : ¬ (bestH s).2 = 0) (hen : s.led.enough ((bestH s).2 : Nat) = true) (hp : 64 < (bestH s).1.length) : Calls Try.prog 84 #[.pointer (some ⟨gx, 0, none⟩)] w (REnterR w B gx gq gl room s F) := by
  have HA := hide h
  have HBE := hide (rhe_best (h.on (Below.refl w.heap.size w).drew) hT)
  obtain ⟨⟨bm, bc⟩, hbst⟩ : ∃ b, b = bestH s := ⟨_, rfl⟩
  rw [← hbst] at HBE hz hen hp
  dsimp only at hz hen hp
  obtain ⟨_, _, c2, c3, _⟩ := h.cells
  unfold BestR at HBE
  dsimp only at HBE
  unfold REnterR
  have hfn : ¬ room ≤ s.q.length := by omega
  have hfl : s.q.length < room := by omega
  have hfi : ¬ (room : Int) ≤ (s.q.length : Int) := by omega
  have hfd : decide (room ≤ s.q.length) = false := by simp; omega
  have hz0 : ((bc : Int) == 0) = false := by rw [beq_eq_false_iff_ne]; omega
  have HP := hide hp
  have HF3 := hide (And.intro hfn (And.intro hfl (And.intro hfd hfi)))
  have HEN0 := hide hen
  clear h hbst hf hz hfn hfl hfd hen hp hfi
  go_enter Try.func84, Try.ntmps84
  go_wp2
  go_region_held3 (fun W => W.cell? ⟨gx, 2, none⟩ = some (.pointer (some ⟨gt, 0, none⟩)) ∧ W.cell? ⟨gx, 3, none⟩ = some (.int .i64 (s.ent : Nat))) (first
      | exact ⟨((HA.out.on (below2 (Below.refl w.heap.size w).drew hb5 (Nat.le_refl _))).cells.2.2.1), ((HA.out.on (below2 (Below.refl w.heap.size w).drew hb5 (Nat.le_refl _))).cells.2.2.2.1)⟩
      | go_keep)
    ((first
      | (go_at_call 50; (with_reducible refine HBE.out.mono ?_); rintro e w5 ⟨A5, c5, rfl, ho5, hb5⟩)))
  have hb05 := below2 (Below.refl w.heap.size w).drew hb5 (Nat.le_refl _)
  have h5 := HA.out.on hb05
  have H5 := hide h5
  have T5 := hide (Turn.of_below (F := F) hb05)
  obtain ⟨d0, d1, _, _, _⟩ := h5.cells
  obtain ⟨V, cV, r0, r1⟩ := h5.row
  have HEN := hide (fun (n : Nat) => rled_enough (w5.drewN n) gl s.led ((bc : Nat) : Int) (show RLedAt (w5.drewN n) gl s.led from H5.out.l))
  rw [HEN0.out] at HEN
  have HQ5 := hide (fun (n : Nat) => rpush_long (h5.q.drewN n) A5 bm.length c5 HP.out)
  obtain ⟨hfn, hfl, hfd, hfi⟩ := HF3.out
  clear ho5 hb5 hb05 h5 c2 c3 HBE
  go_wp2
  go_quiet (first
      | (go_at_call 75; exact quietH (HEN.out _))
      | (go_at_call 64; exact quietH (HQ5.out _)))
  go_wp2
  go_returns
  exact ⟨rfl, gt, _, _, H5.out.on (below_drewN (Below.refl _ _) _), T5.out.drewN _⟩
end
end Go.Proofs.Ytnbhgeodbpelgaa
