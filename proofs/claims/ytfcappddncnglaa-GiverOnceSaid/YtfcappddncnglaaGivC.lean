/- Layer 28's giver: enters, Take. No conditions. -/
import Derived.Test.YtfcappddncnglaaGivB
import Derived.Laws.StructEq
namespace Go.Proofs.Ytfcappddncnglaa
open Go.RowKit No
set_option linter.unusedVariables false
attribute [local go_sem ↓] Go.wp_at_zero Go.wp_at_succ

theorem pushL_not {room : Nat} {ms : List (List Nat)} {m : List Nat} (h : pushE room ms m ≠ 0) : pushL room ms m = ms := by
  unfold pushE at h
  unfold pushL
  by_cases h1 : 64 < m.length
  · rw [if_pos h1]
  · rw [if_neg h1] at h ⊢
    by_cases h2 : room ≤ ms.length
    · rw [if_pos h2]
    · rw [if_neg h2] at h; exact absurd rfl h
/-- a packet that comes: kind, T, C, R, and its data. -/
structure Pk where
  k : Int
  T : Nat
  C : Nat
  R : Nat
  d : List Nat
def pkV (p : Pk) (A : Option Addr) (c : Nat) : Value := .agg #[.int .i64 p.k, .int .u64 (p.T : Nat), .int .u64 (p.C : Nat), .int .u64 (p.R : Nat), .slice A p.d.length c]
def entHit (s : Gst) (p : Pk) : Bool := s.opn && (s.t == p.T) && (s.c == p.C)
def entS (room : Nat) (s : Gst) (p : Pk) : Gst := if entHit s p then (if pushE room s.q p.d = 0 then { s with q := pushL room s.q p.d, opn := false, has := true, last := p.T, ent := s.ent + 1 } else s) else s
theorem gv_enters {w : World} {B gx gs room : Nat} {L : List Nat} {s : Gst} {F : Nat → Prop} (h : Gv w B gx gs room L s F) (hent : s.ent ≤ 1000000) (p : Pk) (A : Option Addr) (c : Nat) (hA : Rd w.heap.size w A (u8s p.d)) :
    Calls Try.prog 78 #[.pointer (some ⟨gx, 0, none⟩), .agg #[.int .i64 p.k, .int .u64 (p.T : Nat), .int .u64 (p.C : Nat), .int .u64 (p.R : Nat), .slice A p.d.length c]] w fun e w' => ∃ F', e = .returned (.bool (entHit s p)) ∧ Gv w' B gx gs room L (entS room s p) F' ∧ Turn F F' w w' := by
  have HG := hide h
  obtain ⟨gq, Fs, tp, cp, h⟩ := h
  have HA := hide h
  have c0 : w.cell? ⟨gx, 0, none⟩ = some (.pointer (some ⟨gq, 0, none⟩)) := h.ob.blk.cell rfl
  have c2 : w.cell? ⟨gx, 2, none⟩ = some (.int .i64 (s.ent : Nat)) := h.ob.blk.cell rfl
  have c5 : w.cell? ⟨gx, 5, none⟩ = some (.bool s.opn) := h.ob.blk.cell rfl
  have c6 : w.cell? ⟨gx, 6, none⟩ = some (.int .u64 (tp : Nat)) := h.ob.blk.cell rfl
  have c7 : w.cell? ⟨gx, 7, none⟩ = some (.int .u64 (cp : Nat)) := h.ob.blk.cell rfl
  have hxlt : gx < w.heap.size := h.ob.blk.lt
  have k5 : ∀ o : Obj, (w.alloc o).cell? ⟨gx, 5, none⟩ = some (.bool s.opn) := fun o => (h.ob.blk.alloc o).cell rfl
  have k6 : ∀ o : Obj, (w.alloc o).cell? ⟨gx, 6, none⟩ = some (.int .u64 (tp : Nat)) := fun o => (h.ob.blk.alloc o).cell rfl
  have k7 : ∀ o : Obj, (w.alloc o).cell? ⟨gx, 7, none⟩ = some (.int .u64 (cp : Nat)) := fun o => (h.ob.blk.alloc o).cell rfl
  by_cases hh : entHit s p = true
  · have e1 : entS room s p = (if pushE room s.q p.d = 0 then { s with q := pushL room s.q p.d, opn := false, has := true, last := p.T, ent := s.ent + 1 } else s) := by unfold entS; rw [if_pos hh]
    rw [e1, hh]
    unfold entHit at hh
    simp only [Bool.and_eq_true, beq_iff_eq] at hh
    obtain ⟨⟨ho, ht⟩, hc⟩ := hh
    obtain ⟨n1, n2⟩ := h.now ho
    rw [ht] at n1
    rw [hc] at n2
    subst n1 n2
    rw [ho] at c5 k5
    obtain ⟨cs5, hcs5⟩ : ∃ cs, cs = [Value.int .i64 p.k, .int .u64 (p.T : Nat), .int .u64 (p.C : Nat), .int .u64 (p.R : Nat), .slice A p.d.length c] := ⟨_, rfl⟩
    have HW := hide (fun nq => show GvAt ((w.alloc (.cells cs5.toArray 96)).drewN nq).drew B gx gq gs room L s F Fs p.T p.C ∧ Blk ((w.alloc (.cells cs5.toArray 96)).drewN nq).drew w.heap.size 96 cs5 ∧ Below w.heap.size w ((w.alloc (.cells cs5.toArray 96)).drewN nq).drew from
      ⟨h.kept (below_kept (below_drewN ((Below.refl _ w).alloc (Nat.le_refl _) _) nq).drew h.ob.foot) (by simp [World.drewN, World.drew]), Blk.new w _ cs5, (below_drewN ((Below.refl _ w).alloc (Nat.le_refl _) _) nq).drew⟩)
    rw [hcs5] at HW
    clear h e1 hcs5 cs5
    go_enter Try.func78, Try.ntmps78
    go_wp2
    go_quiet (fail)
    obtain ⟨hq1, hq2, hq3⟩ := HW.out nq
    obtain ⟨wq, hwq⟩ : ∃ wq, wq = (w.alloc (.cells #[Value.int .i64 p.k, .int .u64 (p.T : Nat), .int .u64 (p.C : Nat), .int .u64 (p.R : Nat), .slice A p.d.length c] 96)).drewN nq := ⟨_, rfl⟩
    rw [← hwq]
    change GvAt (World.drew (World.drewN (w.alloc (.cells #[Value.int .i64 p.k, .int .u64 (p.T : Nat), .int .u64 (p.C : Nat), .int .u64 (p.R : Nat), .slice A p.d.length c] 96)) nq)) B gx gq gs room L s F Fs p.T p.C at hq1
    rw [← hwq] at hq1
    have hq2b : Blk wq.drew w.heap.size 96 [Value.int .i64 p.k, .int .u64 (p.T : Nat), .int .u64 (p.C : Nat), .int .u64 (p.R : Nat), .slice A p.d.length c] := by rw [hwq]; exact hq2
    have hq3b : Below w.heap.size w wq.drew := by rw [hwq]; exact hq3
    clear hwq hq2 hq3 HW k5 k6 k7 c0 c2 c5 c6 c7
    have HQ := hide hq1
    have HX := hide hq2b
    have HBW := hide hq3b
    have HNF : Hid (∀ i, i < 2 → Fs i w.heap.size → False) := fun i hi hf => absurd (HA.out.ob.fs i hi _ hf).2 (Nat.lt_irrefl _)
    have s0 : wq.cell? ⟨gx, 0, none⟩ = some (.pointer (some ⟨gq, 0, none⟩)) := hq1.ob.blk.cell (i := 0) rfl
    have s4 : wq.cell? ⟨w.heap.size, 4, none⟩ = some (.slice A p.d.length c) := hq2b.cell (i := 4) rfl
    have HPU := hide (que_push hq1.q A c p.d (hA.below hq3b (Nat.le_refl _) |>.more hq3b.size))
    have HPF := hide (fun (w4 : World) (F' : Nat → Prop) (hqu : Qu w4 B gq room (pushL room s.q p.d) F') (ht : Turn (Fs 0) F' wq.drew w4) => HQ.out.ob.put (p := 0) (by omega) ht hqu.1)
    have HPX := hide (fun (w4 : World) (F' : Nat → Prop) (ht : Turn (Fs 0) F' wq.drew w4) => HX.out.kept (ht.block w.heap.size HX.out.lt (fun hf => HNF.out 0 (by omega) hf)))
    clear hq1 hq2b hq3b
    by_cases hpe : pushE room s.q p.d = 0
    · have HPE := hide hpe
      rw [hpe] at HPU
      clear hpe
      go_wp2
      go_region_held3 (fun w' => w'.cell? ⟨gx, 0, none⟩ = some (.pointer (some ⟨gq, 0, none⟩)) ∧ w'.cell? ⟨w.heap.size, 4, none⟩ = some (.slice A p.d.length c)) (first
        | exact ⟨s0, s4⟩
        | exact ⟨p0, p4⟩
        | go_keep)
       ((first
        | (go_at_call 21; (with_reducible refine HPU.out.mono ?_); rintro e w4 ⟨F', rfl, hqu, ht4⟩; have p0 : w4.cell? ⟨gx, 0, none⟩ = some (.pointer (some ⟨gq, 0, none⟩)) := (HPF.out w4 F' hqu ht4).1.blk.cell (i := 0) rfl; have p4 : w4.cell? ⟨w.heap.size, 4, none⟩ = some (.slice A p.d.length c) := (HPX.out w4 F' ht4).cell (i := 4) rfl)))
      obtain ⟨hob, htu, hkp⟩ := HPF.out w4 F' hqu ht4
      have hxx := HPX.out w4 F' ht4
      have c1 : w4.cell? ⟨w.heap.size, 1, none⟩ = some (.int .u64 (p.T : Nat)) := hxx.cell (i := 1) rfl
      have c2 : w4.cell? ⟨gx, 2, none⟩ = some (.int .i64 (s.ent : Nat)) := hob.blk.cell (i := 2) rfl
      have c5 : w4.cell? ⟨gx, 5, none⟩ = some (.bool s.opn) := hob.blk.cell (i := 5) rfl
      have c6 : w4.cell? ⟨gx, 6, none⟩ = some (.int .u64 (p.T : Nat)) := hob.blk.cell (i := 6) rfl
      have c7 : w4.cell? ⟨gx, 7, none⟩ = some (.int .u64 (p.C : Nat)) := hob.blk.cell (i := 7) rfl
      have f5 := hob.blk.free 5
      have f6 := hob.blk.free 6
      have f7 := hob.blk.free 7
      have hne : gx ≠ w.heap.size := by omega
      have hne2 : w.heap.size ≠ gx := by omega
      obtain ⟨q1, q2, q3⟩ := hob.set3 5 (.bool false) 6 (.int .u64 0) 7 (.int .u64 0)
      obtain ⟨w5, hw5⟩ : ∃ w5, w5 = ((w4.setCell ⟨gx, 5, none⟩ (.bool false)).setCell ⟨gx, 6, none⟩ (.int .u64 0)).setCell ⟨gx, 7, none⟩ (.int .u64 0) := ⟨_, rfl⟩
      rw [← hw5] at q1 q2 q3
      have HOB := hide q1
      have HTU := hide ((Turn.of_below HBW.out).trans (htu.trans q2))
      have HQU := hide (hqu.kept (fun k hk => q3 0 (by omega) k hk) q2.size)
      have HSR := hide ((HQ.out.src.kept (hkp 1 (by omega) (by omega)) ht4.size).kept (fun k hk => q3 1 (by omega) k hk) q2.size)
      have d1 : w5.cell? ⟨w.heap.size, 1, none⟩ = some (.int .u64 (p.T : Nat)) := by rw [hw5]; simp [World.cell?_setCell_far, hne, c1]
      have d2 : w5.cell? ⟨gx, 2, none⟩ = some (.int .i64 (s.ent : Nat)) := q1.blk.cell (i := 2) rfl
      have d8 : w5.cell? ⟨gx, 8, none⟩ = some (.bool s.has) := q1.blk.cell (i := 8) rfl
      have d9 : w5.cell? ⟨gx, 9, none⟩ = some (.int .u64 (s.last : Nat)) := q1.blk.cell (i := 9) rfl
      have g8 := q1.blk.free 8
      have g9 := q1.blk.free 9
      have g2 := q1.blk.free 2
      have HW5 := hide hw5
      clear hob htu hkp hxx hqu ht4 p0 p4 s0 s4 HPU HPF HPX q1 q2 q3 hw5
      go_wp2
      rw [← HW5.out]
      clear c1 c2 c5 c6 c7 f5 f6 f7
      go_region_held3 (fun w' => w'.cell? ⟨w.heap.size, 1, none⟩ = some (.int .u64 (p.T : Nat))) (go_keep) (fail)
      obtain ⟨r1, r2, r3⟩ := HOB.out.set2d 8 (.bool true) 9 (.int .u64 (p.T : Nat))
      obtain ⟨w6, hw6⟩ : ∃ w6, w6 = ((w5.setCell ⟨gx, 8, none⟩ (.bool true)).setCell ⟨gx, 9, none⟩ (.int .u64 (p.T : Nat))).drew := ⟨_, rfl⟩
      rw [← hw6] at r1 r2 r3
      have b2 : w6.cell? ⟨gx, 2, none⟩ = some (.int .i64 (s.ent : Nat)) := r1.blk.cell (i := 2) rfl
      have f2 := r1.blk.free 2
      rw [← hw6]
      obtain ⟨v1, v2, v3⟩ := r1.set 2 (.int .i64 ((s.ent + 1 : Nat) : Int))
      have HV1 := hide v1
      have HTV := hide (HTU.out.trans (r2.trans v2))
      have HQV := hide ((HQU.out.kept (fun k hk => r3 0 (by omega) k hk) r2.size).kept (fun k hk => v3 0 (by omega) k hk) v2.size)
      have HSV := hide ((HSR.out.kept (fun k hk => r3 1 (by omega) k hk) r2.size).kept (fun k hk => v3 1 (by omega) k hk) v2.size)
      clear r1 r2 r3 v1 v2 v3 hw6 d1 d2 d8 d9 g8 g9 g2
      go_wp2
      go_ret
      refine ⟨rfl, _, ?_, HTV.out⟩
      try rw [if_pos HPE.out]
      exact ⟨gq, _, 0, 0, HV1.out, (fun h => by cases h), HQV.out, HSV.out⟩
    · have HPE := hide hpe
      have hz : ¬ ((pushE room s.q p.d : Nat) : Int) = 0 := by omega
      rw [pushL_not hpe] at HPU HPF
      clear hpe
      go_wp2
      go_region_held3 (fun w' => w'.cell? ⟨gx, 0, none⟩ = some (.pointer (some ⟨gq, 0, none⟩)) ∧ w'.cell? ⟨w.heap.size, 4, none⟩ = some (.slice A p.d.length c)) (first
        | exact ⟨s0, s4⟩
        | exact ⟨p0, p4⟩
        | go_keep)
       ((first
        | (go_at_call 21; (with_reducible refine HPU.out.mono ?_); rintro e w4 ⟨F', rfl, hqu, ht4⟩; have p0 : w4.cell? ⟨gx, 0, none⟩ = some (.pointer (some ⟨gq, 0, none⟩)) := (HPF.out w4 F' hqu ht4).1.blk.cell (i := 0) rfl; have p4 : w4.cell? ⟨w.heap.size, 4, none⟩ = some (.slice A p.d.length c) := (HPX.out w4 F' ht4).cell (i := 4) rfl)))
      go_wp2
      go_ret
      obtain ⟨hob, htu, hkp⟩ := HPF.out w4 F' hqu ht4
      refine ⟨rfl, fun k => F k ∨ F' k, ?_, (Turn.of_below HBW.out).trans htu⟩
      try rw [if_neg HPE.out]
      exact ⟨gq, _, _, _, hob, fun _ => ⟨ht.symm, hc.symm⟩, hqu, HQ.out.src.kept (hkp 1 (by omega) (by omega)) ht4.size⟩
  · have hh2 : entHit s p = false := by simpa using hh
    have hor : s.opn = false ∨ (s.opn = true ∧ ¬ (tp : Int) = (p.T : Int)) ∨ (s.opn = true ∧ (tp : Int) = (p.T : Int) ∧ ¬ (cp : Int) = (p.C : Int)) := by
      cases ho : s.opn with
      | false => exact .inl rfl
      | true =>
        obtain ⟨n1, n2⟩ := h.now ho
        unfold entHit at hh2
        rw [ho] at hh2
        by_cases e : tp = p.T
        · refine .inr (.inr ⟨rfl, by omega, ?_⟩)
          rw [← n1, ← n2, e] at hh2
          simp at hh2
          omega
        · exact .inr (.inl ⟨rfl, by omega⟩)
    have e1 : entS room s p = s := by unfold entS; rw [if_neg hh]
    rw [e1, hh2]
    clear h hh hh2 e1
    rcases hor with ho | ⟨ho, ht⟩ | ⟨ho, ht, hc⟩
    all_goals
      rw [ho] at c5 k5
      go_enter Try.func78, Try.ntmps78
      go_wp2
      go_quiet (fail)
      go_wp2
      go_ret
      exact ⟨F, rfl, HG.out.on ((below_drewN ((Below.refl _ _).alloc (Nat.le_refl _) _) _)), ((Turn.refl F w).alloc _).drewN _⟩
end Go.Proofs.Ytfcappddncnglaa
