/- Layer 20's caller: Take, State. No conditions. -/
import Derived.Test.YtnbhgeodbpelgaaCalE
import Derived.Deep.RegionLaw
namespace Go.Proofs.Ytnbhgeodbpelgaa
open Go.RowKit
set_option linter.unusedVariables false
attribute [local go_sem ↓] Go.wp_at_zero Go.wp_at_succ

section
variable {w w' : World} {B gx gq gl room : Nat} {s : Cst} {F : Nat → Prop} {Fs : Nat → Nat → Prop}
def heardS (s : Cst) : Cst := { s with led := s.led.hear }
def ackB (s : Cst) (lb : Int) : Bool := s.led.hearB && (decide (0 < s.q.length) && (lb == ((s.don % 2 : Nat) : Int)))
def takeCS (s : Cst) (k lb : Int) : Cst := if k = 0 then s else if k = 4 then (if ackB s lb then ackedS (heardS s) else heardS s) else s
def takeCT (s : Cst) (k : Int) : List Prb := if k = 0 then [ansP s] else []
theorem ansP_len (h : ClAt w B gx gq gl room s F Fs) : (ansP s).2.2.length ≤ 64 := by
  unfold ansP
  cases hq : s.q with
  | nil => simp
  | cons m ms => exact h.q.2.2.2.1 m (by rw [hq]; simp)
set_option maxHeartbeats 4000000 in
theorem cl_take (h : ClAt w B gx gq gl room s F Fs) (hd : s.don ≤ 1000000) (ha : s.acks ≤ 1000000) (k lb : Int) (A : Option Addr) (n c : Nat) :
    Calls Try.prog 22 #[.pointer (some ⟨gx, 0, none⟩), .agg #[.int .i64 k, .int .i64 lb, .slice A n c]] w (TellR w B gx room (takeCS s k lb) F (takeCT s k)) := by
  have HW := hide (fun o => h.on ((Below.refl w.heap.size w).alloc (Nat.le_refl _) o))
  have HI := hide (fun o => cl_is (HW.out o))
  have HBA := hide (fun o => (Below.refl w.heap.size w).alloc (Nat.le_refl _) o)
  have hal := ansP_len h
  have HFT := hide h.ob.foot
  clear h
  by_cases hk0 : k = 0
  · subst hk0
    have e1 : takeCS s 0 lb = s := by unfold takeCS; rw [if_pos rfl]
    have e2 : takeCT s 0 = [ansP s] := by unfold takeCT; rw [if_pos rfl]
    rw [e1, e2]
    have HAN := hide (fun o => cl_answer (HW.out o) hd)
    obtain ⟨⟨ak, al, am⟩, hap⟩ : ∃ p, p = ansP s := ⟨_, rfl⟩
    unfold AnsR at HAN
    rw [← hap] at HAN hal
    rw [← hap]
    dsimp only at HAN hal
    clear e1 e2 hap
    unfold TellR
    go_enter Try.func22, Try.ntmps22
    go_wp2_with fail
    refine (HI.out _).mono ?_; rintro e w' ⟨rfl, rfl⟩
    go_wp2_with fail
    refine (HAN.out _).mono ?_; rintro e w1 ⟨D, cD, rfl, hr, hn, hb⟩
    have HR := hide hr
    have HN := hide hn
    have HB := hide (below2 (HBA.out _) hb (by simp))
    have HC1 := hide ((HW.out _).on hb)
    clear hr hn hb HAN
    go_wp2
    go_ret
    have hge : ∀ b o s', D = some ⟨b, o, s'⟩ → w.heap.size ≤ b := fun b o s' e => by
      have h1 := HN.out b o s' e
      have h2 : (w.alloc (.cells #[.int .i64 0, .int .i64 lb, .slice A n c] 36)).heap.size = w.heap.size + 1 := by simp
      omega
    exact ⟨_, _, F, rfl, prbs_one w1 ak al D cD am 36 ⟨HB.out.size, fun hf => by have := (HC1.out.ob.foot _ hf).2; omega⟩ HR.out (by omega) (fun _ b o s' e => ⟨hge b o s' e, fun hf => by have := (HFT.out _ hf).2; have := hge b o s' e; omega⟩), Cl.on ⟨_, _, _, HC1.out⟩ ((Below.refl _ _).alloc (Nat.le_refl _) _), (Turn.of_below HB.out).alloc _⟩
  · have e2 : takeCT s k = [] := by unfold takeCT; rw [if_neg hk0]
    rw [e2]
    by_cases hk4 : k = 4
    · subst hk4
      have e1 : takeCS s 4 lb = (if ackB s lb then ackedS (heardS s) else heardS s) := by unfold takeCS; rw [if_neg (by decide), if_pos rfl]
      rw [e1]
      have HMD := hide ((HW.out (.cells #[.int .i64 4, .int .i64 lb, .slice A n c] 36)).on (Below.refl _ _).drew)
      have HXX := hide ((Blk.new w 36 [.int .i64 4, .int .i64 lb, .slice A n c]).drew)
      have HHE := hide (led_hear _ gl s.led HMD.out.l HMD.out.ok)
      have HBB := hide (HBA.out (.cells #[.int .i64 4, .int .i64 lb, .slice A n c] 36)).drew
      have hglt : gl < w.heap.size := (HFT.out gl ((HW.out (.cells #[] 3)).ob.sub 1 (by omega) gl (HW.out (.cells #[] 3)).lf).1).2
      have HNG : Hid (some w.heap.size ≠ some gl) := fun e => by injection e with e; omega
      have m0 : (w.alloc (.cells #[.int .i64 4, .int .i64 lb, .slice A n c] 36)).cell? ⟨gx, 0, none⟩ = some (.pointer (some ⟨gq, 0, none⟩)) := HMD.out.cells.1
      have m1 : (w.alloc (.cells #[.int .i64 4, .int .i64 lb, .slice A n c] 36)).cell? ⟨gx, 1, none⟩ = some (.pointer (some ⟨gl, 0, none⟩)) := HMD.out.cells.2.1
      have mx : (w.alloc (.cells #[.int .i64 4, .int .i64 lb, .slice A n c] 36)).cell? ⟨w.heap.size, 1, none⟩ = some (.int .i64 lb) := HXX.out.cell (i := 1) rfl
      have hqf : s.q.length ≤ 16 := HMD.out.few
      obtain ⟨lv, hlv⟩ : ∃ lv : Int, lv = ((s.don % 2 : Nat) : Int) := ⟨_, rfl⟩
      have hor : (s.led.hearB = false ∧ ackB s lb = false) ∨ (s.led.hearB = true ∧ s.q.length = 0 ∧ ackB s lb = false) ∨ (s.led.hearB = true ∧ 0 < s.q.length ∧ ((lb : Int) == ((s.don % 2 : Nat) : Int)) = false ∧ ackB s lb = false) ∨ (s.led.hearB = true ∧ 0 < s.q.length ∧ ((lb : Int) == ((s.don % 2 : Nat) : Int)) = true ∧ ackB s lb = true) := by
        unfold ackB
        cases s.led.hearB with
        | false => exact .inl ⟨rfl, rfl⟩
        | true =>
          by_cases hq : 0 < s.q.length
          · cases hb : (lb == ((s.don % 2 : Nat) : Int)) with
            | false => exact .inr (.inr (.inl ⟨rfl, hq, rfl, by simp⟩))
            | true => exact .inr (.inr (.inr ⟨rfl, hq, rfl, by simp [hq]⟩))
          · exact .inr (.inl ⟨rfl, by omega, by simp [hq]⟩)
      clear e1 e2 hk0 hlv lv
      unfold TellR
      rcases hor with ⟨hh, he⟩ | ⟨hh, hq, he⟩ | ⟨hh, hq, hb, he⟩ | ⟨hh, hq, hb, he⟩
      · rw [he]
        rw [hh] at HHE
        clear he hh
        go_enter Try.func22, Try.ntmps22
        go_wp2_with fail
        refine (HI.out _).mono ?_; rintro e w' ⟨rfl, rfl⟩
        go_wp2
        first | (go_region_law
         ((first
          | (go_simp; go_at_call 70; (with_reducible refine HHE.out.mono ?_); rintro e w4 ⟨rfl, hl4, hg4⟩; obtain ⟨F2, Fs2, h2, t2⟩ := HMD.out.led hl4 hg4 (Led.ok_hear HMD.out.ok); have n0 := h2.cells.1; have n1 := h2.cells.2.1; have nx : w4.cell? ⟨w.heap.size, 1, none⟩ = some (.int .i64 lb) := (HXX.out.kept (hg4.block _ HXX.out.lt HNG.out)).cell (i := 1) rfl)
          | (go_simp; go_at_call 61; (with_reducible refine (que_len h2.q).mono ?_); rintro e w5 ⟨rfl, rfl⟩)
          | (go_simp; go_at_call 71; (with_reducible refine (cl_label h2 hd).mono ?_); rintro e w5 ⟨rfl, rfl⟩)))) | fail
        all_goals
          have H2 := hide h2
          have T2 := hide ((Turn.of_below HBB.out).trans t2)
          clear h2 t2 hl4 hg4 n0 n1 nx
          go_wp2
          go_ret
          exact ⟨none, ⟨0, rfl⟩, F2, Prbs.nil _ _ _, ⟨_, _, _, H2.out⟩, T2.out⟩
      · rw [he]
        rw [hh] at HHE
        have hq0 : ¬ (0 : Int) < (s.q.length : Int) := by omega
        clear he hh
        go_enter Try.func22, Try.ntmps22
        go_wp2_with fail
        refine (HI.out _).mono ?_; rintro e w' ⟨rfl, rfl⟩
        go_wp2
        first | (go_region_law
         ((first
          | (go_simp; go_at_call 70; (with_reducible refine HHE.out.mono ?_); rintro e w4 ⟨rfl, hl4, hg4⟩; obtain ⟨F2, Fs2, h2, t2⟩ := HMD.out.led hl4 hg4 (Led.ok_hear HMD.out.ok); have n0 := h2.cells.1; have n1 := h2.cells.2.1; have nx : w4.cell? ⟨w.heap.size, 1, none⟩ = some (.int .i64 lb) := (HXX.out.kept (hg4.block _ HXX.out.lt HNG.out)).cell (i := 1) rfl)
          | (go_simp; go_at_call 61; (with_reducible refine (que_len h2.q).mono ?_); rintro e w5 ⟨rfl, rfl⟩)
          | (go_simp; go_at_call 71; (with_reducible refine (cl_label h2 hd).mono ?_); rintro e w5 ⟨rfl, rfl⟩)))) | fail
        all_goals
          have H2 := hide h2
          have T2 := hide ((Turn.of_below HBB.out).trans t2)
          clear h2 t2 hl4 hg4 n0 n1 nx
          go_wp2
          go_ret
          exact ⟨none, ⟨0, rfl⟩, F2, Prbs.nil _ _ _, ⟨_, _, _, H2.out⟩, T2.out⟩
      · rw [he]
        rw [hh] at HHE
        clear he hh
        go_enter Try.func22, Try.ntmps22
        go_wp2_with fail
        refine (HI.out _).mono ?_; rintro e w' ⟨rfl, rfl⟩
        go_wp2
        first | (go_region_law
         ((first
          | (go_simp; go_at_call 70; (with_reducible refine HHE.out.mono ?_); rintro e w4 ⟨rfl, hl4, hg4⟩; obtain ⟨F2, Fs2, h2, t2⟩ := HMD.out.led hl4 hg4 (Led.ok_hear HMD.out.ok); have n0 := h2.cells.1; have n1 := h2.cells.2.1; have nx : w4.cell? ⟨w.heap.size, 1, none⟩ = some (.int .i64 lb) := (HXX.out.kept (hg4.block _ HXX.out.lt HNG.out)).cell (i := 1) rfl)
          | (go_simp; go_at_call 61; (with_reducible refine (que_len h2.q).mono ?_); rintro e w5 ⟨rfl, rfl⟩)
          | (go_simp; go_at_call 71; (with_reducible refine (cl_label h2 hd).mono ?_); rintro e w5 ⟨rfl, rfl⟩)))) | fail
        all_goals
          have H2 := hide h2
          have T2 := hide ((Turn.of_below HBB.out).trans t2)
          clear h2 t2 hl4 hg4 n0 n1 nx
          go_wp2
          go_ret
          exact ⟨none, ⟨0, rfl⟩, F2, Prbs.nil _ _ _, ⟨_, _, _, H2.out⟩, T2.out⟩
      · rw [he]
        rw [hh] at HHE
        clear he hh
        go_enter Try.func22, Try.ntmps22
        go_wp2_with fail
        refine (HI.out _).mono ?_; rintro e w' ⟨rfl, rfl⟩
        go_wp2
        first | (go_region_law
         ((first
          | (go_simp; go_at_call 70; (with_reducible refine HHE.out.mono ?_); rintro e w4 ⟨rfl, hl4, hg4⟩; obtain ⟨F2, Fs2, h2, t2⟩ := HMD.out.led hl4 hg4 (Led.ok_hear HMD.out.ok); have n0 := h2.cells.1; have n1 := h2.cells.2.1; have nx : w4.cell? ⟨w.heap.size, 1, none⟩ = some (.int .i64 lb) := (HXX.out.kept (hg4.block _ HXX.out.lt HNG.out)).cell (i := 1) rfl)
          | (go_simp; go_at_call 61; (with_reducible refine (que_len h2.q).mono ?_); rintro e w5 ⟨rfl, rfl⟩)
          | (go_simp; go_at_call 71; (with_reducible refine (cl_label h2 hd).mono ?_); rintro e w5 ⟨rfl, rfl⟩)))) | fail
        all_goals
          have HAC := hide (cl_acked h2 hd ha)
          have T2 := hide ((Turn.of_below HBB.out).trans t2)
          clear h2 t2 hl4 hg4 n0 n1 nx
          go_wp2_with fail
          refine HAC.out.mono ?_; rintro e w5 ⟨rfl, F5, Fs5, h5, t5⟩
          have H5 := hide h5
          have T5 := hide t5
          clear h5 t5 HAC
          go_wp2
          go_ret
          exact ⟨none, ⟨0, rfl⟩, F5, Prbs.nil _ _ _, ⟨_, _, _, H5.out⟩, T2.out.trans T5.out⟩
    · have e1 : takeCS s k lb = s := by unfold takeCS; rw [if_neg hk0, if_neg hk4]
      rw [e1]
      have b0 : (k == 0) = false := by rw [beq_eq_false_iff_ne]; exact hk0
      have b4 : (k == 4) = false := by rw [beq_eq_false_iff_ne]; exact hk4
      clear e1 e2
      unfold TellR
      go_enter Try.func22, Try.ntmps22
      go_wp2_with fail
      refine (HI.out _).mono ?_; rintro e w' ⟨rfl, rfl⟩
      go_wp2
      go_ret
      exact ⟨none, 0, F, rfl, Prbs.nil _ _ _, ⟨_, _, _, HW.out _⟩, Turn.of_below (HBA.out _)⟩
end
end Go.Proofs.Ytnbhgeodbpelgaa
