/- Layer 20's caller: New, Poll, Tick, answer, acked, Take, State. No conditions. -/
import Derived.Test.YtnbhgeodbpelgaaCalB
namespace Go.Proofs.Ytnbhgeodbpelgaa
open Go.RowKit
set_option linter.unusedVariables false
attribute [local go_sem ↓] Go.wp_at_zero Go.wp_at_succ

def newC (n : Nat) : Cst := ⟨[], Led.new n, 0, 0, 0⟩
theorem cl_new (r : Int) (hr : 1 ≤ r) (hr2 : r ≤ 16) (n : Nat) (hn : n < 18446744073709551616) (w : World) :
    Calls Try.prog 14 #[.int .i64 r, .int .u64 (n : Int)] w fun e w' => ∃ gx F', e = .returned (.tuple #[.pointer (some ⟨gx, 0, none⟩), .int .i64 0]) ∧ Cl w' w.heap.size gx r.toNat (newC n) F' ∧ Below w.heap.size w w' := by
  have HQ := hide (que_new r hr hr2 w)
  have HN := hide (fun W => led_new n W)
  clear hr hr2
  go_enter Try.func14, Try.ntmps14
  go_wp2_with fail
  refine HQ.out.mono ?_; rintro e w1 ⟨gq, Fq, rfl, hq, hb⟩
  have HQ1 := hide hq
  have HB1 := hide hb
  clear hq hb HQ
  go_wp2_with fail
  refine (HN.out w1).mono ?_; rintro e w2 ⟨rfl, hl, hb2⟩
  have hl2 : w1.heap.size < w2.heap.size := hl.lt
  have hq2 := HQ1.out.on hb2
  have HO := hide (Ob.new w2 (Nat.le_trans HB1.out.size hb2.size) 2 105 (clC gq w1.heap.size (newC n)) (fun k => Fq k ∨ k = w1.heap.size) (fun i => if i = 0 then Fq else fun k => k = w1.heap.size)
    (fun k hk => hk.elim (hq2.1 k) (fun e => by subst e; exact ⟨HB1.out.size, hl2⟩))
    (fun i hi k hk => by rcases (show i = 0 ∨ i = 1 by omega) with rfl | rfl; exact .inl hk; exact .inr hk)
    (fun i j hi hj hne => by
      have h1 : ∀ k, Fq k → k = w1.heap.size → False := fun k hk e => by have := (HQ1.out.1 k hk).2; omega
      rcases (show i = 0 ∨ i = 1 by omega) with rfl | rfl <;> rcases (show j = 0 ∨ j = 1 by omega) with rfl | rfl
      · exact absurd rfl hne
      · exact fun k a b => h1 k a b
      · exact fun k a b => h1 k b a
      · exact absurd rfl hne))
  have HQ2 := hide hq2
  have HL2 := hide hl
  have HB2 := hide (below2 HB1.out hb2 (Nat.le_refl _))
  clear hl hl2 hq2 hb2
  go_wp2
  go_ret2
  have hbA := (Below.refl w2.heap.size w2).alloc (Nat.le_refl _) (.cells (clC gq w1.heap.size (newC n)).toArray 105)
  exact ⟨_, _, rfl, ⟨gq, w1.heap.size, _, HO.out.1, HQ2.out.on hbA, Blk.on HL2.out hbA, rfl, Led.ok_new n (by omega)⟩, below2 HB2.out hbA (Nat.le_refl _)⟩
theorem cl_bad (r : Int) (hr : r < 1 ∨ 16 < r) (n : Nat) (w : World) : Calls Try.prog 14 #[.int .i64 r, .int .u64 (n : Int)] w fun e w' => e = .returned (.tuple #[.pointer none, .int .i64 1]) ∧ w = w' := by
  have HQ := hide (que_bad r hr w)
  clear hr
  go_enter Try.func14, Try.ntmps14
  go_wp2_with fail
  refine HQ.out.mono ?_; rintro e w1 ⟨rfl, rfl⟩
  go_wp2
  go_ret2
  exact ⟨rfl, rfl⟩
section
variable {w w' : World} {B gx gq gl room : Nat} {s : Cst} {F : Nat → Prop} {Fs : Nat → Nat → Prop}
def pollV (s : Cst) (n : Int) : Nat := if n < 0 ∨ (s.acc : Int) ≤ n then 0 else if n < (s.don : Int) then 1 else 0
def pollE (s : Cst) (n : Int) : Nat := if n < 0 ∨ (s.acc : Int) ≤ n then 4 else 0
theorem cl_poll (h : ClAt w B gx gq gl room s F Fs) (n : Int) : Calls Try.prog 24 #[.pointer (some ⟨gx, 0, none⟩), .int .i64 n] w fun e w' => e = .returned (.tuple #[.int .i64 (pollV s n : Nat), .int .i64 (pollE s n : Nat)]) ∧ w = w' := by
  obtain ⟨_, _, c2, c3, _⟩ := h.cells
  have HI := hide (cl_is h)
  unfold pollV pollE
  clear h
  by_cases h0 : n < 0
  · rw [if_pos (.inl h0), if_pos (.inl h0)]
    go_enter Try.func24, Try.ntmps24
    go_wp2_with fail
    refine HI.out.mono ?_; rintro e w' ⟨rfl, rfl⟩
    go_wp2
    go_ret2
    exact ⟨rfl, rfl⟩
  · by_cases h1 : (s.acc : Int) ≤ n
    · rw [if_pos (.inr h1), if_pos (.inr h1)]
      have h2 : ¬ n < (s.acc : Int) := by omega
      go_enter Try.func24, Try.ntmps24
      go_wp2_with fail
      refine HI.out.mono ?_; rintro e w' ⟨rfl, rfl⟩
      go_wp2
      go_ret2
      exact ⟨rfl, rfl⟩
    · have hn : ¬ (n < 0 ∨ (s.acc : Int) ≤ n) := by omega
      rw [if_neg hn, if_neg hn]
      have h2 : n < (s.acc : Int) := by omega
      clear hn
      by_cases hd : n < (s.don : Int)
      · rw [if_pos hd]
        go_enter Try.func24, Try.ntmps24
        go_wp2_with fail
        refine HI.out.mono ?_; rintro e w' ⟨rfl, rfl⟩
        go_wp2
        go_ret2
        exact ⟨rfl, rfl⟩
      · rw [if_neg hd]
        go_enter Try.func24, Try.ntmps24
        go_wp2_with fail
        refine HI.out.mono ?_; rintro e w' ⟨rfl, rfl⟩
        go_wp2
        go_ret2
        exact ⟨rfl, rfl⟩
def tickS (s : Cst) : Cst := if s.q.length = 0 then s else { s with led := s.led.ask }
def tickT (s : Cst) : List Prb := if s.q.length = 0 then [] else if s.led.askB then [(1, 0, [])] else []
/-- packets that are told, in new blocks. -/
def TellR (w : World) (B gx room : Nat) (s' : Cst) (F : Nat → Prop) (ts : List Prb) (e : Ending) (w' : World) : Prop :=
  ∃ A c F', e = .returned (.slice A ts.length c) ∧ Prbs (fun k => w.heap.size ≤ k ∧ ¬ F' k) w' A ts ∧ Cl w' B gx room s' F' ∧ Turn F F' w w'
/-- one packet, in a new block. -/
theorem prbs_one {P : Nat → Prop} (w : World) (k lb : Int) (D : Option Addr) (c : Nat) (m : List Nat) (ty : TypeId) (hP : P w.heap.size) (hD : Rd w.heap.size w D (u8s m)) (hl : m.length ≤ 9223372036854775807) (hd : 0 < m.length → ∀ b o s, D = some ⟨b, o, s⟩ → P b) :
    Prbs P (w.alloc (.cells #[.int .i64 k, .int .i64 lb, .slice D m.length c] ty)) (some ⟨w.heap.size, 0, none⟩) [(k, lb, m)] := fun i p hk => by
  cases i with
  | zero =>
    injection hk with hk
    subst hk
    have hb := Blk.new w ty [.int .i64 k, .int .i64 lb, .slice D m.length c]
    exact ⟨w.heap.size, 0, D, c, rfl, hP, hb.lt, fun j v hv => by rw [show 0 + 0 * 3 + j = j by omega]; exact hb.cell hv, hD.on ((Below.refl _ _).alloc (Nat.le_refl _) _), hl, hd⟩
  | succ i => simp at hk
set_option maxHeartbeats 1000000 in
theorem cl_tick (h : ClAt w B gx gq gl room s F Fs) : Calls Try.prog 20 #[.pointer (some ⟨gx, 0, none⟩)] w (TellR w B gx room (tickS s) F (tickT s)) := by
  obtain ⟨c0, c1, _, _, _⟩ := h.cells
  have HI := hide (cl_is h)
  have HL := hide (que_len h.q)
  have HK := hide (led_ask w gl s.led h.l h.ok)
  have HA := hide h
  have hfew := h.few
  unfold TellR
  clear h
  by_cases hq : s.q.length = 0
  · have e1 : tickS s = s := by unfold tickS; rw [if_pos hq]
    have e2 : tickT s = [] := by unfold tickT; rw [if_pos hq]
    rw [e1, e2]
    rw [hq] at HL
    clear e1 e2
    go_enter Try.func20, Try.ntmps20
    go_wp2_with fail
    refine HI.out.mono ?_; rintro e w' ⟨rfl, rfl⟩
    go_wp2_with fail
    refine HL.out.mono ?_; rintro e w' ⟨rfl, rfl⟩
    go_wp2
    go_ret
    exact ⟨none, 0, F, rfl, Prbs.nil _ _ _, ⟨_, _, _, HA.out⟩, Turn.refl _ _⟩
  · have e1 : tickS s = { s with led := s.led.ask } := by unfold tickS; rw [if_neg hq]
    have hq0 : ((s.q.length : Int) == 0) = false := by rw [beq_eq_false_iff_ne]; omega
    cases hb : s.led.askB with
    | false =>
      have e2 : tickT s = [] := by unfold tickT; rw [if_neg hq, hb]; rfl
      rw [e1, e2]
      rw [hb] at HK
      clear e1 e2 hb hq
      go_enter Try.func20, Try.ntmps20
      go_wp2_with fail
      refine HI.out.mono ?_; rintro e w' ⟨rfl, rfl⟩
      go_wp2_with fail
      refine HL.out.mono ?_; rintro e w' ⟨rfl, rfl⟩
      go_wp2_with fail
      refine HK.out.mono ?_; rintro e w1 ⟨rfl, hl, hg⟩
      obtain ⟨F1, Fs1, h1, t1⟩ := HA.out.led hl hg (Led.ok_ask HA.out.ok)
      have H1 := hide h1
      have T1 := hide t1
      clear hl hg h1 t1
      go_wp2
      go_ret
      exact ⟨none, 0, F1, rfl, Prbs.nil _ _ _, ⟨_, _, _, H1.out⟩, T1.out⟩
    | true =>
      have e2 : tickT s = [(1, 0, [])] := by unfold tickT; rw [if_neg hq, hb]; rfl
      rw [e1, e2]
      rw [hb] at HK
      clear e1 e2 hb hq
      go_enter Try.func20, Try.ntmps20
      go_wp2_with fail
      refine HI.out.mono ?_; rintro e w' ⟨rfl, rfl⟩
      go_wp2_with fail
      refine HL.out.mono ?_; rintro e w' ⟨rfl, rfl⟩
      go_wp2_with fail
      refine HK.out.mono ?_; rintro e w1 ⟨rfl, hl, hg⟩
      obtain ⟨F1, Fs1, h1, t1⟩ := HA.out.led hl hg (Led.ok_ask HA.out.ok)
      have H1 := hide h1
      have T1 := hide t1
      clear hl hg h1 t1
      go_wp2
      go_ret
      exact ⟨_, _, F1, rfl, prbs_one w1 1 0 none 0 [] 36 ⟨T1.out.size, fun hf => by have := (H1.out.ob.foot _ hf).2; omega⟩ (Rd.nil _ _ _) (by simp) (fun h => by cases h), Cl.on ⟨_, _, _, H1.out⟩ ((Below.refl _ _).alloc (Nat.le_refl _) _), T1.out.alloc _⟩
end
end Go.Proofs.Ytnbhgeodbpelgaa
