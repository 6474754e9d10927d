/- Layer 28's giver: Take. No conditions. -/
import Derived.Test.YtfcappddncnglaaGivC
namespace Go.Proofs.Ytfcappddncnglaa
open Go.RowKit No
set_option linter.unusedVariables false
attribute [local go_sem ↓] Go.wp_at_zero Go.wp_at_succ

def oldG (s : Gst) (p : Pk) : Bool := s.has && (p.T == s.last)
def takeS (room : Nat) (L : List Nat) (s : Gst) (p : Pk) : Gst := if p.k = 2 then entS room s p else if p.k = 0 then (if oldG s p then s else chalS L s p.T) else s
def takeT (L : List Nat) (s : Gst) (p : Pk) : List Tok := if p.k = 2 then (if entHit s p then [] else if oldG s p then knownT s else []) else if p.k = 0 then (if oldG s p then knownT s else chalT L s p.T) else []
/-- what Take tells, and leaves. -/
def TakeR (w : World) (B gx gs room : Nat) (L : List Nat) (s : Gst) (p : Pk) (F : Nat → Prop) (e : Ending) (w' : World) : Prop :=
  ∃ A c F', e = .returned (.slice A (takeT L s p).length c) ∧ Toks w' A (takeT L s p) ∧ Gv w' B gx gs room L (takeS room L s p) F' ∧ Turn F F' w w' ∧ NewA A w F'
set_option maxHeartbeats 2000000 in
theorem gv_take {w : World} {B gx gs room : Nat} {L : List Nat} {s : Gst} {F : Nat → Prop} (h : Gv w B gx gs room L s F) (hL : L.length ≤ 17592186044416) (hU : s.U.length ≤ 1099511627776) (hent : s.ent ≤ 1000000) (p : Pk) (A : Option Addr) (c : Nat) (hA : Rd w.heap.size w A (u8s p.d)) :
    Calls Try.prog 57 #[.pointer (some ⟨gx, 0, none⟩), .agg #[.int .i64 p.k, .int .u64 (p.T : Nat), .int .u64 (p.C : Nat), .int .u64 (p.R : Nat), .slice A p.d.length c]] w (TakeR w B gx gs room L s p F) := by
  have HG := hide h
  obtain ⟨gq, Fs, tp, cp, h⟩ := h
  obtain ⟨k, T, C, R, d⟩ := p
  have hxlt : gx < w.heap.size := h.ob.blk.lt
  have k8 : ∀ o : Obj, (w.alloc o).cell? ⟨gx, 8, none⟩ = some (.bool s.has) := fun o => (h.ob.blk.alloc o).cell rfl
  have k9 : ∀ o : Obj, (w.alloc o).cell? ⟨gx, 9, none⟩ = some (.int .u64 (s.last : Nat)) := fun o => (h.ob.blk.alloc o).cell rfl
  have HW := hide (fun cs nq => show Gv ((w.alloc (.cells (List.toArray cs) 96)).drewN nq) B gx gs room L s F ∧ Blk ((w.alloc (.cells (List.toArray cs) 96)).drewN nq) w.heap.size 96 cs ∧ Below w.heap.size w ((w.alloc (.cells (List.toArray cs) 96)).drewN nq) from
    ⟨HG.out.on (below_drewN ((Below.refl _ w).alloc (Nat.le_refl _) _) nq), Blk.new w _ cs, below_drewN ((Below.refl _ w).alloc (Nat.le_refl _) _) nq⟩)
  have HI := hide (fun cs => gv_is (HG.out.on ((Below.refl w.heap.size w).alloc (Nat.le_refl _) (.cells cs 96))))
  have HEN := hide (fun W (hw : Gv W B gx gs room L s F) (hA' : Rd W.heap.size W A (u8s d)) => gv_enters hw hent ⟨k, T, C, R, d⟩ A c hA')
  have HKN := hide (fun W (hw : Gv W B gx gs room L s F) => gv_known hw)
  have HCH := hide (fun W (hw : Gv W B gx gs room L s F) => gv_chal hw hL hU T)
  have HA := hide hA
  clear h hA hL hU hent
  have hor : (oldG s ⟨k, T, C, R, d⟩ = true ∧ s.has = true ∧ T = s.last) ∨ (oldG s ⟨k, T, C, R, d⟩ = false ∧ s.has = false) ∨ (oldG s ⟨k, T, C, R, d⟩ = false ∧ s.has = true ∧ ((T : Int) == (s.last : Int)) = false) := by
    unfold oldG
    cases s.has with
    | false => exact .inr (.inl ⟨rfl, rfl⟩)
    | true =>
      by_cases e : T = s.last
      · exact .inl ⟨by simp [e], rfl, e⟩
      · exact .inr (.inr ⟨by simp [e], rfl, by simp; omega⟩)
  unfold TakeR takeT takeS
  dsimp only
  by_cases hk2 : k = 2
  · subst hk2
    rw [if_pos rfl, if_pos rfl]
    rcases hor with ⟨ho, hh, ht⟩ | ⟨ho, hh⟩ | ⟨ho, hh, ht⟩
    · rw [ho]
      rw [hh] at k8
      subst ht
      cases hb : entHit s ⟨2, s.last, C, R, d⟩
      all_goals
        simp only [hb] at HEN
        go_enter Try.func57, Try.ntmps57
        go_wp2_with fail
        refine (HI.out _).mono ?_; rintro e w' ⟨rfl, rfl⟩
        go_wp2
        go_quiet (fail)
        obtain ⟨W, hW⟩ : ∃ W, W = (w.alloc (.cells #[Value.int .i64 2, .int .u64 (s.last : Nat), .int .u64 (C : Nat), .int .u64 (R : Nat), .slice A d.length c] 96)).drewN nq := ⟨_, rfl⟩
        obtain ⟨hw1, hw2, hw3⟩ := HW.out [Value.int .i64 2, .int .u64 (s.last : Nat), .int .u64 (C : Nat), .int .u64 (R : Nat), .slice A d.length c] nq
        rw [show (w.alloc (.cells (List.toArray [Value.int .i64 2, .int .u64 (s.last : Nat), .int .u64 (C : Nat), .int .u64 (R : Nat), .slice A d.length c]) 96)).drewN nq = W from hW.symm] at hw1 hw2 hw3
        rw [← hW]
        have hc0 := hw2.cell (i := 0) rfl
        have hc1 := hw2.cell (i := 1) rfl
        have hc2 := hw2.cell (i := 2) rfl
        have hc3 := hw2.cell (i := 3) rfl
        have hc4 := hw2.cell (i := 4) rfl
        have HE := hide (HEN.out W hw1 ((HA.out.below hw3 (Nat.le_refl _)).more hw3.size))
        have HW1 := hide hw1
        have HW3 := hide hw3
        clear hW hw1 hw2 hw3 k8 k9
        go_wp2_with fail
        refine HE.out.mono ?_; rintro e w5 ⟨F5, rfl, hg5, hu5⟩
        have HG5 := hide hg5
        clear hc0 hc1 hc2 hc3 hc4 hg5
      · have hs : entS room s ⟨2, s.last, C, R, d⟩ = s := by unfold entS; rw [if_neg (by rw [hb]; simp)]
        have HG6 : Hid (Gv w5 B gx gs room L s F5) := hs ▸ HG5.out
        have HK := hide (gv_known HG6.out)
        go_wp2_with fail
        refine HK.out.mono ?_; rintro e w6 ⟨A6, c6, rfl, ht6, hb6, hn6⟩
        go_wp2
        go_ret
        exact ⟨A6, ⟨c6, rfl⟩, ht6, F5, HG6.out.on hb6, ((Turn.of_below HW3.out).trans hu5).trans (Turn.of_below hb6), hn6.lift (Nat.le_trans HW3.out.size hu5.size) HG5.out.foot⟩
      · go_wp2
        go_ret
        exact ⟨none, ⟨0, rfl⟩, Toks.nil _ _, F5, HG5.out, (Turn.of_below HW3.out).trans hu5, newA_none _ _⟩
    · rw [ho]
      rw [hh] at k8
      cases hb : entHit s ⟨2, T, C, R, d⟩
      all_goals
        simp only [hb] at HEN
        go_enter Try.func57, Try.ntmps57
        go_wp2_with fail
        refine (HI.out _).mono ?_; rintro e w' ⟨rfl, rfl⟩
        go_wp2
        go_quiet (fail)
        obtain ⟨W, hW⟩ : ∃ W, W = (w.alloc (.cells #[Value.int .i64 2, .int .u64 (T : Nat), .int .u64 (C : Nat), .int .u64 (R : Nat), .slice A d.length c] 96)).drewN nq := ⟨_, rfl⟩
        obtain ⟨hw1, hw2, hw3⟩ := HW.out [Value.int .i64 2, .int .u64 (T : Nat), .int .u64 (C : Nat), .int .u64 (R : Nat), .slice A d.length c] nq
        rw [show (w.alloc (.cells (List.toArray [Value.int .i64 2, .int .u64 (T : Nat), .int .u64 (C : Nat), .int .u64 (R : Nat), .slice A d.length c]) 96)).drewN nq = W from hW.symm] at hw1 hw2 hw3
        rw [← hW]
        have hc0 := hw2.cell (i := 0) rfl
        have hc1 := hw2.cell (i := 1) rfl
        have hc2 := hw2.cell (i := 2) rfl
        have hc3 := hw2.cell (i := 3) rfl
        have hc4 := hw2.cell (i := 4) rfl
        have HE := hide (HEN.out W hw1 ((HA.out.below hw3 (Nat.le_refl _)).more hw3.size))
        have HW1 := hide hw1
        have HW3 := hide hw3
        clear hW hw1 hw2 hw3 k8 k9
        go_wp2_with fail
        refine HE.out.mono ?_; rintro e w5 ⟨F5, rfl, hg5, hu5⟩
        have HG5 := hide hg5
        clear hc0 hc1 hc2 hc3 hc4 hg5
        go_wp2
        go_ret
        exact ⟨none, ⟨0, rfl⟩, Toks.nil _ _, F5, HG5.out, (Turn.of_below HW3.out).trans hu5, newA_none _ _⟩
    · rw [ho]
      rw [hh] at k8
      cases hb : entHit s ⟨2, T, C, R, d⟩
      all_goals
        simp only [hb] at HEN
        go_enter Try.func57, Try.ntmps57
        go_wp2_with fail
        refine (HI.out _).mono ?_; rintro e w' ⟨rfl, rfl⟩
        go_wp2
        go_quiet (fail)
        obtain ⟨W, hW⟩ : ∃ W, W = (w.alloc (.cells #[Value.int .i64 2, .int .u64 (T : Nat), .int .u64 (C : Nat), .int .u64 (R : Nat), .slice A d.length c] 96)).drewN nq := ⟨_, rfl⟩
        obtain ⟨hw1, hw2, hw3⟩ := HW.out [Value.int .i64 2, .int .u64 (T : Nat), .int .u64 (C : Nat), .int .u64 (R : Nat), .slice A d.length c] nq
        rw [show (w.alloc (.cells (List.toArray [Value.int .i64 2, .int .u64 (T : Nat), .int .u64 (C : Nat), .int .u64 (R : Nat), .slice A d.length c]) 96)).drewN nq = W from hW.symm] at hw1 hw2 hw3
        rw [← hW]
        have hc0 := hw2.cell (i := 0) rfl
        have hc1 := hw2.cell (i := 1) rfl
        have hc2 := hw2.cell (i := 2) rfl
        have hc3 := hw2.cell (i := 3) rfl
        have hc4 := hw2.cell (i := 4) rfl
        have HE := hide (HEN.out W hw1 ((HA.out.below hw3 (Nat.le_refl _)).more hw3.size))
        have HW1 := hide hw1
        have HW3 := hide hw3
        clear hW hw1 hw2 hw3 k8 k9
        go_wp2_with fail
        refine HE.out.mono ?_; rintro e w5 ⟨F5, rfl, hg5, hu5⟩
        have HG5 := hide hg5
        clear hc0 hc1 hc2 hc3 hc4 hg5
        go_wp2
        go_ret
        exact ⟨none, ⟨0, rfl⟩, Toks.nil _ _, F5, HG5.out, (Turn.of_below HW3.out).trans hu5, newA_none _ _⟩
  · rw [if_neg hk2, if_neg hk2]
    by_cases hk0 : k = 0
    · subst hk0
      rw [if_pos rfl, if_pos rfl]
      rcases hor with ⟨ho, hh, ht⟩ | ⟨ho, hh⟩ | ⟨ho, hh, ht⟩
      · rw [ho]
        rw [hh] at k8
        subst ht
        go_enter Try.func57, Try.ntmps57
        go_wp2_with fail
        refine (HI.out _).mono ?_; rintro e w' ⟨rfl, rfl⟩
        go_wp2
        go_quiet (fail)
        go_wp2_with fail
        refine (HKN.out _ (HW.out _ nq).1).mono ?_; rintro e w5 ⟨A5, c5, rfl, ht5, hb5, hn5⟩
        go_wp2
        go_ret
        first
          | exact ⟨A5, c5, F, rfl, ht5, ((HW.out _ nq).1).on hb5, (Turn.of_below (HW.out _ nq).2.2).trans (Turn.of_below hb5), hn5.lift (HW.out _ nq).2.2.size (HW.out _ nq).1.foot⟩
          | exact ⟨A5, ⟨c5, rfl⟩, ht5, F, ((HW.out _ nq).1).on hb5, (Turn.of_below (HW.out _ nq).2.2).trans (Turn.of_below hb5), hn5.lift (HW.out _ nq).2.2.size (HW.out _ nq).1.foot⟩
      all_goals
        rw [ho]
        rw [hh] at k8
        go_enter Try.func57, Try.ntmps57
        go_wp2_with fail
        refine (HI.out _).mono ?_; rintro e w' ⟨rfl, rfl⟩
        go_wp2
        go_quiet (fail)
        have hc1 := (HW.out [.int .i64 0, .int .u64 (T : Nat), .int .u64 (C : Nat), .int .u64 (R : Nat), .slice A d.length c] nq).2.1.cell (i := 1) rfl
        go_wp2_with fail
        refine (HCH.out _ (HW.out _ nq).1).mono ?_; rintro e w5 ⟨A5, c5, F5, rfl, ht5, hg5, hu5, hn5⟩
        go_wp2
        go_ret
        first
          | exact ⟨A5, c5, F5, rfl, ht5, hg5, (Turn.of_below (HW.out _ nq).2.2).trans hu5, hn5.down (HW.out _ nq).2.2.size⟩
          | exact ⟨A5, ⟨c5, rfl⟩, ht5, F5, hg5, (Turn.of_below (HW.out _ nq).2.2).trans hu5, hn5.down (HW.out _ nq).2.2.size⟩
    · rw [if_neg hk0, if_neg hk0]
      have hk2' := hk2
      have hk0' := hk0
      rcases hor with ⟨ho, hh, ht⟩ | ⟨ho, hh⟩ | ⟨ho, hh, ht⟩
      · rw [hh] at k8
        subst ht
        go_enter Try.func57, Try.ntmps57
        go_wp2_with fail
        refine (HI.out _).mono ?_; rintro e w' ⟨rfl, rfl⟩
        go_wp2
        go_quiet (fail)
        have hc0 := (HW.out [.int .i64 k, .int .u64 (s.last : Nat), .int .u64 (C : Nat), .int .u64 (R : Nat), .slice A d.length c] nq).2.1.cell (i := 0) rfl
        go_wp2
        go_ret
        exact ⟨none, 0, F, rfl, Toks.nil _ _, (HW.out _ nq).1, Turn.of_below (HW.out _ nq).2.2, newA_none _ _⟩
      all_goals
        rw [hh] at k8
        go_enter Try.func57, Try.ntmps57
        go_wp2_with fail
        refine (HI.out _).mono ?_; rintro e w' ⟨rfl, rfl⟩
        go_wp2
        go_quiet (fail)
        have hc0 := (HW.out [.int .i64 k, .int .u64 (T : Nat), .int .u64 (C : Nat), .int .u64 (R : Nat), .slice A d.length c] nq).2.1.cell (i := 0) rfl
        go_wp2
        go_ret
        exact ⟨none, 0, F, rfl, Toks.nil _ _, (HW.out _ nq).1, Turn.of_below (HW.out _ nq).2.2, newA_none _ _⟩
end Go.Proofs.Ytfcappddncnglaa
