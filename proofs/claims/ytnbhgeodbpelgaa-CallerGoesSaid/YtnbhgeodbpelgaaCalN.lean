/- Layer 20: the law CallerGoes, by what the caller is at. No conditions. -/
import Derived.Test.YtnbhgeodbpelgaaCalJ
import Derived.Test.YtnbhgeodbpelgaaCalL
namespace Go.Proofs.Ytnbhgeodbpelgaa
open Go.RowKit
set_option linter.unusedVariables false
attribute [local go_sem ↓] Go.wp_at_zero Go.wp_at_succ

/-- two messages wait; so many are out, so many marked, so many heard. -/
def gS (b o k : Nat) : Cst := ⟨[[97], [98]], ⟨o, b, false⟩, 2, 0, k⟩
def gN (o : Nat) : Cst := ⟨[[98]], ⟨o, o, false⟩, 2, 1, 0⟩
theorem gS_tick (b o k : Nat) (h : o < 1000) : tickS (gS b o k) = gS b (o + 1) k ∧ tickT (gS b o k) = [(1, 0, [])] := by
  refine ⟨?_, ?_⟩
  · unfold tickS
    rw [if_neg (by simp [gS])]
    unfold gS Led.ask
    rw [if_neg (by simp), topB_lt (show o + 1 < 18446744073709551615 by omega)]
  · unfold tickT
    rw [if_neg (by simp [gS])]
    rfl
theorem gS_hear (b o k : Nat) (h : 0 < o) : (gS b o k).led.hearB = true := by
  unfold gS Led.hearB
  simp; omega
theorem gS_heard (b o k : Nat) (h : 0 < o) : heardS (gS b o k) = gS b (o - 1) k := by
  unfold heardS Led.hear
  rw [gS_hear b o k h]
  rfl
theorem gS_other (b o k : Nat) (h : 0 < o) : takeCS (gS b o k) 4 1 = gS b (o - 1) k := by
  unfold takeCS
  rw [if_neg (by decide), if_pos rfl, if_neg (by unfold ackB; rw [gS_hear b o k h]; simp [gS]), gS_heard b o k h]
theorem gS_ack (b o k : Nat) (h : 0 < o) : takeCS (gS b o k) 4 0 = ackedS (gS b (o - 1) k) := by
  unfold takeCS
  rw [if_neg (by decide), if_pos rfl, if_pos (by unfold ackB; rw [gS_hear b o k h]; simp [gS]), gS_heard b o k h]
theorem gS_few (b o k : Nat) (h : 0 < o) (hk : k + 1 ≤ b) : takeCS (gS b o k) 4 0 = gS b (o - 1) (k + 1) := by
  rw [gS_ack b o k h]
  unfold ackedS
  rw [if_neg (by unfold Led.enough gS; simp; omega)]
  rfl
theorem gS_goes (b o : Nat) (h : 0 < o) : takeCS (gS b o b) 4 0 = gN (o - 1) := by
  rw [gS_ack b o b h]
  unfold ackedS
  rw [if_pos (by unfold Led.enough gS; simp; omega)]
  rfl
section
variable {w w' : World} {B gx : Nat} {F : Nat → Prop}
theorem g_tick {b o k : Nat} (h : Cl w B gx 2 (gS b o k) F) (ho : o < 1000) : Calls Try.prog 20 #[.pointer (some ⟨gx, 0, none⟩)] w fun e w' => ∃ A c F', e = .returned (.slice A 1 c) ∧ Cl w' B gx 2 (gS b (o + 1) k) F' ∧ Turn F F' w w' := by
  obtain ⟨gq, gl, Fs, h⟩ := h
  refine (cl_tick h).mono ?_
  rintro e w1 ⟨A, c, F', he, _, hm, ht⟩
  rw [(gS_tick b o k ho).1] at hm
  rw [(gS_tick b o k ho).2] at he
  exact ⟨A, c, F', he, hm, ht⟩
theorem g_other {b o k : Nat} (h : Cl w B gx 2 (gS b o k) F) (ho : 0 < o) (hk : k ≤ 1000) : Calls Try.prog 22 #[.pointer (some ⟨gx, 0, none⟩), .agg #[.int .i64 4, .int .i64 1, .slice none 0 0]] w fun e w' => ∃ A c F', e = .returned (.slice A 0 c) ∧ Cl w' B gx 2 (gS b (o - 1) k) F' ∧ Turn F F' w w' := by
  obtain ⟨gq, gl, Fs, h⟩ := h
  refine (cl_take h (by simp [gS]) (by simp [gS]; omega) 4 1 none 0 0).mono ?_
  rintro e w1 ⟨A, c, F', he, _, hm, ht⟩
  rw [gS_other b o k ho] at hm
  exact ⟨A, c, F', he, hm, ht⟩
theorem g_few {b o k : Nat} (h : Cl w B gx 2 (gS b o k) F) (ho : 0 < o) (hk : k + 1 ≤ b) (hb : b ≤ 30) : Calls Try.prog 22 #[.pointer (some ⟨gx, 0, none⟩), .agg #[.int .i64 4, .int .i64 0, .slice none 0 0]] w fun e w' => ∃ A c F', e = .returned (.slice A 0 c) ∧ Cl w' B gx 2 (gS b (o - 1) (k + 1)) F' ∧ Turn F F' w w' := by
  obtain ⟨gq, gl, Fs, h⟩ := h
  refine (cl_take h (by simp [gS]) (by simp [gS]; omega) 4 0 none 0 0).mono ?_
  rintro e w1 ⟨A, c, F', he, _, hm, ht⟩
  rw [gS_few b o k ho hk] at hm
  exact ⟨A, c, F', he, hm, ht⟩
theorem g_goes {b o : Nat} (h : Cl w B gx 2 (gS b o b) F) (ho : 0 < o) (hb : b ≤ 30) : Calls Try.prog 22 #[.pointer (some ⟨gx, 0, none⟩), .agg #[.int .i64 4, .int .i64 0, .slice none 0 0]] w fun e w' => ∃ A c F', e = .returned (.slice A 0 c) ∧ Cl w' B gx 2 (gN (o - 1)) F' ∧ Turn F F' w w' := by
  obtain ⟨gq, gl, Fs, h⟩ := h
  refine (cl_take h (by simp [gS]) (by simp [gS]; omega) 4 0 none 0 0).mono ?_
  rintro e w1 ⟨A, c, F', he, _, hm, ht⟩
  rw [gS_goes b o ho] at hm
  exact ⟨A, c, F', he, hm, ht⟩
theorem g_asked {o : Nat} (h : Cl w B gx 2 (gN o) F) : Calls Try.prog 22 #[.pointer (some ⟨gx, 0, none⟩), .agg #[.int .i64 0, .int .i64 0, .slice none 0 0]] w fun e w' => ∃ A c F', e = .returned (.slice A 1 c) ∧ Prbs (fun k => w.heap.size ≤ k ∧ ¬ F' k) w' A [(3, 1, [98])] ∧ Cl w' B gx 2 (gN o) F' ∧ Turn F F' w w' := by
  obtain ⟨gq, gl, Fs, h⟩ := h
  exact cl_take h (by simp [gN]) (by simp [gN]) 0 0 none 0 0
theorem g_state {s : Cst} (h : Cl w B gx 2 s F) : Calls Try.prog 27 #[.pointer (some ⟨gx, 0, none⟩)] w fun e w' => e = .returned (.agg #[.int .i64 (s.acc : Nat), .int .i64 (s.don : Nat), .int .u64 (s.led.out : Int), .int .u64 (s.led.mark : Int), .int .u64 (s.acks : Nat), .bool s.led.spent]) ∧ Below w.heap.size w w' := by
  obtain ⟨gq, gl, Fs, h⟩ := h
  exact cl_state h
theorem g_send {s : Cst} (h : Cl w B gx 2 s F) (hacc : s.acc ≤ 1000000) (x : Nat) : Calls Try.prog 17 #[.pointer (some ⟨gx, 0, none⟩), .slice (some ⟨w.heap.size, 0, none⟩) 1 1] (w.alloc (.cells #[.int .u8 (x : Nat)] 5 (1, 2))) fun e w' => ∃ F', e = .returned (.tuple #[.int .i64 (sendV 2 s [x] : Nat), .int .i64 (pushE 2 s.q [x] : Nat)]) ∧ Cl w' B gx 2 (sendS 2 s [x]) F' ∧ Turn F F' w w' := by
  obtain ⟨gq, gl, Fs, h⟩ := h
  refine (cl_send (h.on ((Below.refl _ _).alloc (Nat.le_refl _) _)) hacc _ 1 [x] (rd_lit1 w x)).mono ?_
  rintro e w1 ⟨F', he, hm, ht⟩
  exact ⟨F', he, hm, (((Turn.refl F w).alloc _).trans ht)⟩
end
end Go.Proofs.Ytnbhgeodbpelgaa
