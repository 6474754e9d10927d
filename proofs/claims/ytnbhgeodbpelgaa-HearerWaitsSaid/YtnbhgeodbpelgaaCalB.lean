/- Layer 20's caller, by what it does in memory: what it is at, New, is, label, turns, Send, Poll, Tick. No conditions. -/
import Derived.Test.YtnbhgeodbpelgaaCalA
import Derived.Test.YtnbhgeodbpelgaaLedB
namespace Go.Proofs.Ytnbhgeodbpelgaa
open Go.RowKit
set_option linter.unusedVariables false
attribute [local go_sem ↓] Go.wp_at_zero Go.wp_at_succ

/-- what a caller is at. -/
structure Cst where
  q : List (List Nat)
  led : Led
  acc : Nat
  don : Nat
  acks : Nat
def clC (gq gl : Nat) (s : Cst) : List Value := [.pointer (some ⟨gq, 0, none⟩), .pointer (some ⟨gl, 0, none⟩), .int .i64 (s.acc : Nat), .int .i64 (s.don : Nat), .int .u64 (s.acks : Nat)]
structure ClAt (w : World) (B gx gq gl room : Nat) (s : Cst) (F : Nat → Prop) (Fs : Nat → Nat → Prop) : Prop where
  ob : Ob w B gx 2 105 (clC gq gl s) F Fs
  q : Qu w B gq room s.q (Fs 0)
  l : LedAt w gl s.led
  lf : Fs 1 gl
  ok : s.led.ok
def Cl (w : World) (B gx room : Nat) (s : Cst) (F : Nat → Prop) : Prop := ∃ gq gl Fs, ClAt w B gx gq gl room s F Fs
section
variable {w w' : World} {B gx gq gl room : Nat} {s : Cst} {F : Nat → Prop} {Fs : Nat → Nat → Prop}
theorem ClAt.kept (h : ClAt w B gx gq gl room s F Fs) (hk : ∀ k, F k → w'.heap[k]? = w.heap[k]?) (hs : w.heap.size ≤ w'.heap.size) : ClAt w' B gx gq gl room s F Fs :=
  ⟨h.ob.kept hk hs, h.q.kept (h.ob.part (i := 0) (by omega) hk) hs, h.l.kept (h.ob.part (i := 1) (by omega) hk gl h.lf), h.lf, h.ok⟩
theorem Cl.kept (h : Cl w B gx room s F) (hk : ∀ k, F k → w'.heap[k]? = w.heap[k]?) (hs : w.heap.size ≤ w'.heap.size) : Cl w' B gx room s F := by
  obtain ⟨gq, gl, Fs, h⟩ := h
  exact ⟨gq, gl, Fs, h.kept hk hs⟩
theorem Cl.foot (h : Cl w B gx room s F) : Foot F B w := by obtain ⟨_, _, _, h⟩ := h; exact h.ob.foot
theorem Cl.on (h : Cl w B gx room s F) (hb : Below w.heap.size w w') : Cl w' B gx room s F := h.kept (below_kept hb h.foot) hb.size
theorem ClAt.on (h : ClAt w B gx gq gl room s F Fs) (hb : Below w.heap.size w w') : ClAt w' B gx gq gl room s F Fs := h.kept (below_kept hb h.ob.foot) hb.size
/-- the ledger has turned. -/
theorem ClAt.led {l' : Led} (h : ClAt w B gx gq gl room s F Fs) (hl : LedAt w' gl l') (hg : w.grownBy w' (some gl)) (hok : l'.ok) : ∃ F' Fs', ClAt w' B gx gq gl room { s with led := l' } F' Fs' ∧ Turn F F' w w' := by
  have ht : Turn (Fs 1) (Fs 1) w w' := Turn.of_grown hg (by intro k e; cases e; exact h.lf) (fun k hk => .inl hk)
  obtain ⟨p1, p2, p3⟩ := h.ob.put (p := 1) (by omega) ht ((h.ob.fs 1 (by omega)).on ht.size)
  exact ⟨_, _, ⟨p1, h.q.kept (p3 0 (by omega) (by omega)) ht.size, hl, h.lf, hok⟩, p2⟩
/-- the queue has turned. -/
theorem ClAt.que {ms : List (List Nat)} {F1 : Nat → Prop} (h : ClAt w B gx gq gl room s F Fs) (hq : Qu w' B gq room ms F1) (ht : Turn (Fs 0) F1 w w') : ∃ F' Fs', ClAt w' B gx gq gl room { s with q := ms } F' Fs' ∧ Turn F F' w w' := by
  obtain ⟨p1, p2, p3⟩ := h.ob.put (p := 0) (by omega) ht hq.1
  exact ⟨_, _, ⟨p1, hq, h.l.kept (p3 1 (by omega) (by omega) gl h.lf), h.lf, h.ok⟩, p2⟩
theorem ClAt.setAcc (h : ClAt w B gx gq gl room s F Fs) (n : Nat) : ClAt (w.setCell ⟨gx, 2, none⟩ (.int .i64 (n : Int))) B gx gq gl room { s with acc := n } F Fs ∧ Turn F F w (w.setCell ⟨gx, 2, none⟩ (.int .i64 (n : Int))) := by
  obtain ⟨a, b, c⟩ := h.ob.set 2 (.int .i64 (n : Int))
  exact ⟨⟨a, h.q.kept (c 0 (by omega)) b.size, h.l.kept (c 1 (by omega) gl h.lf), h.lf, h.ok⟩, b⟩
theorem ClAt.setDon (h : ClAt w B gx gq gl room s F Fs) (n : Nat) : ClAt (w.setCell ⟨gx, 3, none⟩ (.int .i64 (n : Int))) B gx gq gl room { s with don := n } F Fs ∧ Turn F F w (w.setCell ⟨gx, 3, none⟩ (.int .i64 (n : Int))) := by
  obtain ⟨a, b, c⟩ := h.ob.set 3 (.int .i64 (n : Int))
  exact ⟨⟨a, h.q.kept (c 0 (by omega)) b.size, h.l.kept (c 1 (by omega) gl h.lf), h.lf, h.ok⟩, b⟩
theorem ClAt.setAcks (h : ClAt w B gx gq gl room s F Fs) (n : Nat) : ClAt (w.setCell ⟨gx, 4, none⟩ (.int .u64 (n : Int))) B gx gq gl room { s with acks := n } F Fs ∧ Turn F F w (w.setCell ⟨gx, 4, none⟩ (.int .u64 (n : Int))) := by
  obtain ⟨a, b, c⟩ := h.ob.set 4 (.int .u64 (n : Int))
  exact ⟨⟨a, h.q.kept (c 0 (by omega)) b.size, h.l.kept (c 1 (by omega) gl h.lf), h.lf, h.ok⟩, b⟩
theorem ClAt.cells (h : ClAt w B gx gq gl room s F Fs) : w.cell? ⟨gx, 0, none⟩ = some (.pointer (some ⟨gq, 0, none⟩)) ∧ w.cell? ⟨gx, 1, none⟩ = some (.pointer (some ⟨gl, 0, none⟩)) ∧ w.cell? ⟨gx, 2, none⟩ = some (.int .i64 (s.acc : Nat)) ∧ w.cell? ⟨gx, 3, none⟩ = some (.int .i64 (s.don : Nat)) ∧ w.cell? ⟨gx, 4, none⟩ = some (.int .u64 (s.acks : Nat)) :=
  ⟨h.ob.blk.cell (i := 0) rfl, h.ob.blk.cell (i := 1) rfl, h.ob.blk.cell (i := 2) rfl, h.ob.blk.cell (i := 3) rfl, h.ob.blk.cell (i := 4) rfl⟩
theorem ClAt.few (h : ClAt w B gx gq gl room s F Fs) : s.q.length ≤ 16 := by have := h.q.2.2.1; omega
theorem cl_is (h : ClAt w B gx gq gl room s F Fs) : Calls Try.prog 60 #[.pointer (some ⟨gx, 0, none⟩)] w fun e w' => e = .returned (.bool true) ∧ w = w' := by
  have c0 := h.cells.1
  clear h
  go_enter Try.func60, Try.ntmps60
  go_wp2
  go_ret
  exact ⟨rfl, rfl⟩
theorem cl_label (h : ClAt w B gx gq gl room s F Fs) (hd : s.don ≤ 1000000) : Calls Try.prog 71 #[.pointer (some ⟨gx, 0, none⟩)] w fun e w' => e = .returned (.int .i64 ((s.don % 2 : Nat) : Int)) ∧ w = w' := by
  have c3 := h.cells.2.2.2.1
  clear h
  go_enter Try.func71, Try.ntmps71
  go_wp2
  go_ret
  rw [show ((s.don % 2 : Nat) : Int) = (s.don : Int) % 2 by omega]
  exact ⟨rfl, rfl⟩
/-- another message is the message. -/
def turnsC (s : Cst) : Cst := if 0 < s.q.length then { s with led := s.led.set, acks := 0 } else s
theorem cl_turns (h : ClAt w B gx gq gl room s F Fs) : Calls Try.prog 63 #[.pointer (some ⟨gx, 0, none⟩)] w fun e w' => e = .returned (.tuple #[]) ∧ ∃ F' Fs', ClAt w' B gx gq gl room (turnsC s) F' Fs' ∧ Turn F F' w w' := by
  obtain ⟨c0, c1, _, _, c4⟩ := h.cells
  have HL := hide (que_len h.q)
  have HM := hide (led_mark w gl s.led h.l)
  have HA := hide h
  have hfew := h.few
  unfold turnsC
  clear h
  by_cases hq : 0 < s.q.length
  · rw [if_pos hq]
    go_enter Try.func63, Try.ntmps63
    go_wp2_with fail
    refine HL.out.mono ?_; rintro e w' ⟨rfl, rfl⟩
    go_wp2_with fail
    refine HM.out.mono ?_; rintro e w1 ⟨rfl, hl, hg⟩
    obtain ⟨F1, Fs1, h1, t1⟩ := HA.out.led hl hg (Led.ok_set HA.out.ok)
    have d4 := h1.cells.2.2.2.2
    have f4 := h1.ob.blk.free 4
    obtain ⟨h2, t2⟩ := h1.setAcks 0
    have H2 := hide h2
    have T2 := hide (t1.trans t2)
    clear hl hg h1 t1 h2 t2
    go_wp2
    go_returns
    exact ⟨rfl, _, _, H2.out, T2.out⟩
  · rw [if_neg hq]
    go_enter Try.func63, Try.ntmps63
    go_wp2_with fail
    refine HL.out.mono ?_; rintro e w' ⟨rfl, rfl⟩
    go_wp2
    go_returns
    exact ⟨rfl, _, _, HA.out, Turn.refl _ _⟩
theorem pushL_notC {ms : List (List Nat)} {m : List Nat} (h : pushE room ms m ≠ 0) : pushL room ms m = ms := by
  unfold pushE at h
  unfold pushL
  by_cases h1 : 64 < m.length
  · rw [if_pos h1]
  · rw [if_neg h1] at h ⊢
    by_cases h2 : room ≤ ms.length
    · rw [if_pos h2]
    · rw [if_neg h2] at h; exact absurd rfl h
/-- what Send makes. -/
def sendS (room : Nat) (s : Cst) (m : List Nat) : Cst :=
  if pushE room s.q m = 0 then (if s.q.length = 0 then { turnsC { s with q := pushL room s.q m } with acc := s.acc + 1 } else { s with q := pushL room s.q m, acc := s.acc + 1 }) else s
def sendV (room : Nat) (s : Cst) (m : List Nat) : Nat := if pushE room s.q m = 0 then s.acc else 0
def SendR (w : World) (B gx room : Nat) (s : Cst) (F : Nat → Prop) (m : List Nat) (e : Ending) (w' : World) : Prop :=
  ∃ F', e = .returned (.tuple #[.int .i64 (sendV room s m : Nat), .int .i64 (pushE room s.q m : Nat)]) ∧ Cl w' B gx room (sendS room s m) F' ∧ Turn F F' w w'
theorem turnsC_acc (s : Cst) : (turnsC s).acc = s.acc ∧ (turnsC s).don = s.don ∧ (turnsC s).q = s.q := by unfold turnsC; split <;> exact ⟨rfl, rfl, rfl⟩
set_option maxHeartbeats 1000000 in
theorem cl_send (h : ClAt w B gx gq gl room s F Fs) (hacc : s.acc ≤ 1000000) (A : Option Addr) (c : Nat) (m : List Nat) (hA : Rd w.heap.size w A (u8s m)) :
    Calls Try.prog 17 #[.pointer (some ⟨gx, 0, none⟩), .slice A m.length c] w (SendR w B gx room s F m) := by
  obtain ⟨c0, c1, c2, _, _⟩ := h.cells
  have HI := hide (cl_is h)
  have HL := hide (que_len h.q)
  have HP := hide (que_push h.q A c m hA)
  have HA := hide h
  have hfew := h.few
  unfold SendR
  clear h hA
  by_cases hp : pushE room s.q m = 0
  · have eV : sendV room s m = s.acc := by unfold sendV; rw [if_pos hp]
    rw [eV, hp]
    rw [hp] at HP
    by_cases hq : s.q.length = 0
    · have eS : sendS room s m = { turnsC { s with q := pushL room s.q m } with acc := s.acc + 1 } := by unfold sendS; rw [if_pos hp, if_pos hq]
      rw [eS]
      clear hp eV eS
      rw [hq] at HL
      go_enter Try.func17, Try.ntmps17
      go_wp2_with fail
      refine HI.out.mono ?_; rintro e w' ⟨rfl, rfl⟩
      go_wp2_with fail
      refine HL.out.mono ?_; rintro e w' ⟨rfl, rfl⟩
      go_wp2_with fail
      refine HP.out.mono ?_; rintro e w1 ⟨F1, rfl, hq1, ht1⟩
      obtain ⟨F2, Fs2, h2, t2⟩ := HA.out.que hq1 ht1
      have HT := hide (cl_turns h2)
      have T2 := hide t2
      clear hq1 ht1 h2 t2 HP
      go_wp2_with fail
      refine HT.out.mono ?_; rintro e w3 ⟨rfl, F3, Fs3, h3, t3⟩
      have d2 := h3.cells.2.2.1
      rw [(turnsC_acc _).1] at d2
      have f2 := h3.ob.blk.free 2
      obtain ⟨h4, t4⟩ := h3.setAcc (s.acc + 1)
      have H4 := hide h4
      have T4 := hide ((T2.out.trans t3).trans t4)
      clear h3 t3 h4 t4 HT
      go_wp2
      go_ret2
      exact ⟨F3, by first | rfl | (congr; omega), ⟨_, _, _, H4.out⟩, T4.out⟩
    · have eS : sendS room s m = { s with q := pushL room s.q m, acc := s.acc + 1 } := by unfold sendS; rw [if_pos hp, if_neg hq]
      rw [eS]
      have hq0 : ¬ (s.q.length : Int) = 0 := by omega
      clear hp eV eS hq
      go_enter Try.func17, Try.ntmps17
      go_wp2_with fail
      refine HI.out.mono ?_; rintro e w' ⟨rfl, rfl⟩
      go_wp2_with fail
      refine HL.out.mono ?_; rintro e w' ⟨rfl, rfl⟩
      go_wp2_with fail
      refine HP.out.mono ?_; rintro e w1 ⟨F1, rfl, hq1, ht1⟩
      obtain ⟨F2, Fs2, h2, t2⟩ := HA.out.que hq1 ht1
      have d2 : w1.cell? ⟨gx, 2, none⟩ = some (.int .i64 (s.acc : Nat)) := h2.cells.2.2.1
      have f2 := h2.ob.blk.free 2
      obtain ⟨h4, t4⟩ := h2.setAcc (s.acc + 1)
      have H4 := hide h4
      have T4 := hide (t2.trans t4)
      clear hq1 ht1 h2 t2 h4 t4 HP
      go_wp2
      go_ret2
      exact ⟨F2, by first | rfl | (congr; omega), ⟨_, _, _, H4.out⟩, T4.out⟩
  · have eV : sendV room s m = 0 := by unfold sendV; rw [if_neg hp]
    have eS : sendS room s m = s := by unfold sendS; rw [if_neg hp]
    rw [eV, eS]
    rw [pushL_notC hp] at HP
    have hz : ((pushE room s.q m : Nat) : Int) ≠ 0 := by omega
    have hzb : (((pushE room s.q m : Nat) : Int) != 0) = true := by simp; omega
    clear hp eV eS
    go_enter Try.func17, Try.ntmps17
    go_wp2_with fail
    refine HI.out.mono ?_; rintro e w' ⟨rfl, rfl⟩
    go_wp2_with fail
    refine HL.out.mono ?_; rintro e w' ⟨rfl, rfl⟩
    go_wp2_with fail
    refine HP.out.mono ?_; rintro e w1 ⟨F1, rfl, hq1, ht1⟩
    obtain ⟨F2, Fs2, h2, t2⟩ := HA.out.que hq1 ht1
    have H2 := hide h2
    have T2 := hide t2
    clear hq1 ht1 h2 t2 HP
    go_wp2
    go_ret2
    exact ⟨F2, rfl, ⟨_, _, _, H2.out⟩, T2.out⟩
end
end Go.Proofs.Ytnbhgeodbpelgaa
