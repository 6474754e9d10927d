/- Layer 28's giver, by what it does in memory: what it is at, is, known, challenge, enters. No conditions. -/
import Derived.Test.YtfcappddncnglaaGivA
import Derived.Test.YtfcappddncnglaaObj
namespace Go.Proofs.Ytfcappddncnglaa
open Go.RowKit No
set_option linter.unusedVariables false
attribute [local go_sem ↓] Go.wp_at_zero Go.wp_at_succ

/-- what a giver is at. -/
structure Gst where
  q : List (List Nat)
  U : List Nat
  ent : Nat
  ret : Nat
  R : Nat
  opn : Bool
  t : Nat
  c : Nat
  has : Bool
  last : Nat
def gvC (gq gs : Nat) (s : Gst) (tp cp : Nat) : List Value := [.pointer (some ⟨gq, 0, none⟩), .pointer (some ⟨gs, 0, none⟩), .int .i64 (s.ent : Nat), .int .i64 (s.ret : Nat), .int .u64 (s.R : Nat), .bool s.opn, .int .u64 (tp : Nat), .int .u64 (cp : Nat), .bool s.has, .int .u64 (s.last : Nat)]
/-- the program's giver, in block gx; its source in block gs. -/
structure GvAt (w : World) (B gx gq gs room : Nat) (L : List Nat) (s : Gst) (F : Nat → Prop) (Fs : Nat → Nat → Prop) (tp cp : Nat) : Prop where
  ob : Ob w B gx 2 132 (gvC gq gs s tp cp) F Fs
  now : s.opn = true → tp = s.t ∧ cp = s.c
  q : Qu w B gq room s.q (Fs 0)
  src : Src w B gs L s.U (Fs 1)
def Gv (w : World) (B gx gs room : Nat) (L : List Nat) (s : Gst) (F : Nat → Prop) : Prop := ∃ gq Fs tp cp, GvAt w B gx gq gs room L s F Fs tp cp
section
variable {w w' : World} {B gx gq gs room : Nat} {L : List Nat} {s : Gst} {F : Nat → Prop} {Fs : Nat → Nat → Prop} {tp cp : Nat}
theorem GvAt.kept (h : GvAt w B gx gq gs room L s F Fs tp cp) (hk : ∀ k, F k → w'.heap[k]? = w.heap[k]?) (hs : w.heap.size ≤ w'.heap.size) : GvAt w' B gx gq gs room L s F Fs tp cp :=
  ⟨h.ob.kept hk hs, h.now, h.q.kept (h.ob.part (i := 0) (by omega) hk) hs, h.src.kept (h.ob.part (i := 1) (by omega) hk) hs⟩
theorem Gv.kept (h : Gv w B gx gs room L s F) (hk : ∀ k, F k → w'.heap[k]? = w.heap[k]?) (hs : w.heap.size ≤ w'.heap.size) : Gv w' B gx gs room L s F := by
  obtain ⟨gq, Fs, tp, cp, h⟩ := h
  exact ⟨gq, Fs, tp, cp, h.kept hk hs⟩
theorem Gv.foot (h : Gv w B gx gs room L s F) : Foot F B w := by obtain ⟨_, _, _, _, h⟩ := h; exact h.ob.foot
theorem Gv.on (h : Gv w B gx gs room L s F) (hb : Below w.heap.size w w') : Gv w' B gx gs room L s F := h.kept (below_kept hb h.foot) hb.size
theorem Gv.few (h : Gv w B gx gs room L s F) : s.q.length ≤ 16 := by obtain ⟨_, _, _, _, h⟩ := h; have := h.q.2.2.1; omega
end
theorem gv_is {w : World} {B gx gs room : Nat} {L : List Nat} {s : Gst} {F : Nat → Prop} (h : Gv w B gx gs room L s F) :
    Calls Try.prog 77 #[.pointer (some ⟨gx, 0, none⟩)] w fun e w' => e = .returned (.bool true) ∧ w = w' := by
  obtain ⟨gq, Fs, tp, cp, h⟩ := h
  have c0 : w.cell? ⟨gx, 0, none⟩ = some (.pointer (some ⟨gq, 0, none⟩)) := h.ob.blk.cell rfl
  clear h
  go_enter Try.func77, Try.ntmps77
  go_wp2
  go_ret
  exact ⟨rfl, rfl⟩
theorem nil_is28 (w : World) : Calls Try.prog 77 #[.pointer none] w fun e w' => e = .returned (.bool false) ∧ w = w' := by
  go_enter Try.func77, Try.ntmps77
  go_wp2
  go_ret
  exact ⟨rfl, rfl⟩
/-- what lies at A was made since, and is not among F'. -/
def NewA (A : Option Addr) (w : World) (F' : Nat → Prop) : Prop := ∀ b o s, A = some ⟨b, o, s⟩ → w.heap.size ≤ b ∧ ¬ F' b
theorem newA_none (w : World) (F' : Nat → Prop) : NewA none w F' := fun _ _ _ e => by cases e
theorem newA_at {w : World} {n B : Nat} {F' : Nat → Prop} {w2 : World} (hs : w.heap.size ≤ n) (hf : Foot F' B w2) (hn : w2.heap.size ≤ n) : NewA (some ⟨n, 0, none⟩) w F' := fun b o s e => by
  injection e with e
  injection e with e1
  subst e1
  exact ⟨hs, fun h => by have := (hf _ h).2; omega⟩
theorem newA_no {w : World} {n : Nat} (hs : w.heap.size ≤ n) : NewA (some ⟨n, 0, none⟩) w (fun _ => False) := fun b o s e => by
  injection e with e
  injection e with e1
  subst e1
  exact ⟨hs, fun h => h⟩
theorem NewA.lift {A : Option Addr} {w w1 : World} {B : Nat} {F' : Nat → Prop} (h : NewA A w1 (fun _ => False)) (hs : w.heap.size ≤ w1.heap.size) (hf : Foot F' B w1) : NewA A w F' := fun b o s e => by
  have := (h b o s e).1
  exact ⟨by omega, fun hf' => by have := (hf _ hf').2; omega⟩
theorem NewA.down {A : Option Addr} {w w1 : World} {F' : Nat → Prop} (h : NewA A w1 F') (hs : w.heap.size ≤ w1.heap.size) : NewA A w F' := fun b o s e => ⟨Nat.le_trans hs (h b o s e).1, (h b o s e).2⟩
/-- packets that are told. -/
def TokR (ts : List Tok) (w : World) (e : Ending) (w' : World) : Prop := ∃ A c, e = .returned (.slice A ts.length c) ∧ Toks w' A ts ∧ Below w.heap.size w w' ∧ NewA A w (fun _ => False)
def knownT (s : Gst) : List Tok := if 0 < s.q.length then [] else [(3, s.last, 0, s.R)]
theorem toks_one (w : World) (t : Tok) (ty : TypeId) : Toks (w.alloc (.cells (tokC t).toArray ty)) (some ⟨w.heap.size, 0, none⟩) [t] := fun k u hk => by
  cases k with
  | zero =>
    injection hk with hk
    subst hk
    have hb := Blk.new w ty (tokC t)
    exact ⟨w.heap.size, 0, rfl, hb.lt, fun j v hv => by rw [show 0 + 0 * 5 + j = j by omega]; exact hb.cell hv⟩
  | succ k => simp at hk
theorem gv_known {w : World} {B gx gs room : Nat} {L : List Nat} {s : Gst} {F : Nat → Prop} (h : Gv w B gx gs room L s F) :
    Calls Try.prog 79 #[.pointer (some ⟨gx, 0, none⟩)] w (TokR (knownT s) w) := by
  have hf := h.few
  obtain ⟨gq, Fs, tp, cp, h⟩ := h
  have c0 : w.cell? ⟨gx, 0, none⟩ = some (.pointer (some ⟨gq, 0, none⟩)) := h.ob.blk.cell rfl
  have c4 : w.cell? ⟨gx, 4, none⟩ = some (.int .u64 (s.R : Nat)) := h.ob.blk.cell rfl
  have c9 : w.cell? ⟨gx, 9, none⟩ = some (.int .u64 (s.last : Nat)) := h.ob.blk.cell rfl
  have HL := hide (que_len h.q)
  unfold knownT
  clear h
  by_cases hq : 0 < s.q.length
  · rw [if_pos hq]
    go_enter Try.func79, Try.ntmps79
    go_wp2_with fail
    refine HL.out.mono ?_; rintro e w' ⟨rfl, rfl⟩
    go_wp2
    go_ret
    exact ⟨none, 0, rfl, Toks.nil _ _, Below.refl _ _, newA_none _ _⟩
  · rw [if_neg hq]
    have h0 : s.q.length = 0 := by omega
    rw [h0] at HL
    have HT := hide (fun W => toks_one W (3, s.last, 0, s.R) 96)
    have HB := hide (fun (W : World) o => (Below.refl W.heap.size W).alloc (Nat.le_refl _) o)
    clear hq hf h0
    go_enter Try.func79, Try.ntmps79
    go_wp2_with fail
    refine HL.out.mono ?_; rintro e w' ⟨rfl, rfl⟩
    go_wp2
    go_region_held3 (fun w' => w'.cell? ⟨gx, 4, none⟩ = some (.int .u64 (s.R : Nat)) ∧ w'.cell? ⟨gx, 9, none⟩ = some (.int .u64 (s.last : Nat))) (go_keep) (fail)
    go_wp2
    go_ret
    exact ⟨_, _, rfl, HT.out _, (Below.refl _ _).drew.alloc (by simp) _, newA_no (Nat.le_refl _)⟩
def chalHit (s : Gst) (T : Nat) : Bool := s.opn && (s.t == T)
def chalS (L : List Nat) (s : Gst) (T : Nat) : Gst := if chalHit s T then s else { s with opn := true, t := T, c := nextN L s.U.length, U := s.U ++ [nextN L s.U.length] }
def chalT (L : List Nat) (s : Gst) (T : Nat) : List Tok := [(1, T, (chalS L s T).c, s.R)]
theorem gv_chal {w : World} {B gx gs room : Nat} {L : List Nat} {s : Gst} {F : Nat → Prop} (h : Gv w B gx gs room L s F) (hL : L.length ≤ 17592186044416) (hU : s.U.length ≤ 1099511627776) (T : Nat) :
    Calls Try.prog 80 #[.pointer (some ⟨gx, 0, none⟩), .int .u64 (T : Nat)] w fun e w' => ∃ A c F', e = .returned (.slice A (chalT L s T).length c) ∧ Toks w' A (chalT L s T) ∧ Gv w' B gx gs room L (chalS L s T) F' ∧ Turn F F' w w' ∧ NewA A w F' := by
  have HG := hide h
  obtain ⟨gq, Fs, tp, cp, h⟩ := h
  have HA := hide h
  have c1 : w.cell? ⟨gx, 1, none⟩ = some (.pointer (some ⟨gs, 0, none⟩)) := h.ob.blk.cell rfl
  have c4 : w.cell? ⟨gx, 4, none⟩ = some (.int .u64 (s.R : Nat)) := h.ob.blk.cell rfl
  have c5 : w.cell? ⟨gx, 5, none⟩ = some (.bool s.opn) := h.ob.blk.cell rfl
  have c6 : w.cell? ⟨gx, 6, none⟩ = some (.int .u64 (tp : Nat)) := h.ob.blk.cell rfl
  have c7 : w.cell? ⟨gx, 7, none⟩ = some (.int .u64 (cp : Nat)) := h.ob.blk.cell rfl
  have HN := hide (src_next w B gs L s.U (Fs 1) h.src hL hU)
  have HT := hide (fun W t => toks_one W t 96)
  clear hL hU
  by_cases hh : chalHit s T = true
  · have ho : s.opn = true := by unfold chalHit at hh; simp at hh; exact hh.1
    have ht : s.t = T := by unfold chalHit at hh; simp at hh; exact hh.2
    have e1 : chalS L s T = s := by unfold chalS; rw [if_pos hh]
    have e2 : chalT L s T = [(1, T, s.c, s.R)] := by unfold chalT; rw [e1]
    rw [e1, e2]
    obtain ⟨n1, n2⟩ := h.now ho
    rw [ho] at c5
    rw [n1, ht] at c6
    rw [n2] at c7
    have t1 : ((T : Int) != (T : Int)) = false := by simp
    clear h hh ho ht e1 e2 n1 n2
    go_enter Try.func80, Try.ntmps80
    go_wp2
    go_region_held3 (fun w' => w'.cell? ⟨gx, 4, none⟩ = some (.int .u64 (s.R : Nat)) ∧ w'.cell? ⟨gx, 7, none⟩ = some (.int .u64 (s.c : Nat))) (go_keep) (fail)
    go_wp2
    go_ret
    exact ⟨_, _, F, rfl, HT.out _ (1, T, s.c, s.R), HG.out.on ((Below.refl _ _).drew.alloc (by simp) _), ((Turn.refl F w).drew).alloc _, newA_at (Nat.le_refl _) HG.out.foot (Nat.le_refl _)⟩
  · have hh2 : chalHit s T = false := by simpa using hh
    have hor : s.opn = false ∨ (s.opn = true ∧ ((tp : Int) != (T : Int)) = true) := by
      cases ho : s.opn with
      | false => exact .inl rfl
      | true =>
        refine .inr ⟨rfl, ?_⟩
        obtain ⟨n1, n2⟩ := h.now ho
        unfold chalHit at hh2
        rw [ho] at hh2
        simp at hh2
        simp
        omega
    have e1 : chalS L s T = { s with opn := true, t := T, c := nextN L s.U.length, U := s.U ++ [nextN L s.U.length] } := by unfold chalS; rw [if_neg hh]
    have e2 : chalT L s T = [(1, T, nextN L s.U.length, s.R)] := by unfold chalT; rw [e1]
    rw [e1, e2]
    clear h hh hh2 e1 e2
    have HP := hide (fun (w1 : World) (F' : Nat → Prop) (hs : Src w1 B gs L (s.U ++ [nextN L s.U.length]) F') (ht : Turn (Fs 1) F' w w1) => HA.out.ob.put (p := 1) (by omega) ht hs.1)
    rcases hor with ho | ⟨ho, ht⟩
    all_goals
      rw [ho] at c5
      go_enter Try.func80, Try.ntmps80
      go_wp2_with fail
      refine HN.out.mono ?_; rintro e w1 ⟨F', rfl, hs, ht1⟩
      obtain ⟨p1, p2, p3⟩ := HP.out w1 F' hs ht1
      have HS1 := hide hs
      have HO1 := hide p1
      have HT1 := hide p2
      have HK1 := hide p3
      have d4 : w1.cell? ⟨gx, 4, none⟩ = some (.int .u64 (s.R : Nat)) := p1.blk.cell rfl
      have d5 : w1.cell? ⟨gx, 5, none⟩ = some (.bool s.opn) := p1.blk.cell rfl
      have d6 : w1.cell? ⟨gx, 6, none⟩ = some (.int .u64 (tp : Nat)) := p1.blk.cell rfl
      have d7 : w1.cell? ⟨gx, 7, none⟩ = some (.int .u64 (cp : Nat)) := p1.blk.cell rfl
      have f5 := p1.blk.free 5
      have f6 := p1.blk.free 6
      have f7 := p1.blk.free 7
      obtain ⟨q1, q2, q3⟩ := p1.set3 5 (.bool true) 6 (.int .u64 (T : Nat)) 7 (.int .u64 (nextN L s.U.length : Nat))
      have HO3 := hide q1
      have HT3 := hide (HT1.out.trans q2)
      have HK3 := hide q3
      have e4 := q1.blk.cell (i := 4) (v := .int .u64 (s.R : Nat)) rfl
      have e7 := q1.blk.cell (i := 7) (v := .int .u64 (nextN L s.U.length : Nat)) rfl
      obtain ⟨w3, hw3⟩ : ∃ w3, w3 = ((w1.setCell ⟨gx, 5, none⟩ (.bool true)).setCell ⟨gx, 6, none⟩ (.int .u64 (T : Nat))).setCell ⟨gx, 7, none⟩ (.int .u64 (nextN L s.U.length : Nat)) := ⟨_, rfl⟩
      rw [← hw3] at e4 e7 HO3 HT3 HK3
      clear hs ht1 p1 p2 p3 q1 q2 q3 HP HN c1 c4 c5 c6 c7
      go_wp2
      rw [← hw3]
      have HW3 := hide hw3
      clear d4 d5 d6 d7 f5 f6 f7 hw3
      go_region_held3 (fun w' => w'.cell? ⟨gx, 4, none⟩ = some (.int .u64 (s.R : Nat)) ∧ w'.cell? ⟨gx, 7, none⟩ = some (.int .u64 (nextN L s.U.length : Nat))) (go_keep) (fail)
      go_wp2
      go_ret
      have hq : Qu w3 B gq room s.q (Fs 0) := HA.out.q.kept (fun k hk => (HK3.out 0 (by omega) k hk).trans (HK1.out 0 (by omega) (by omega) k hk)) HT3.out.size
      have hsr : Src w3 B gs L (s.U ++ [nextN L s.U.length]) F' := by
        refine HS1.out.kept (fun k hk => ?_) ?_
        · exact HK3.out 1 (by omega) k hk
        · rw [HW3.out]; simp [World.setCell]
      exact ⟨_, _, _, rfl, HT.out _ (1, T, nextN L s.U.length, s.R), (show Gv w3 B gx gs room L { s with opn := true, t := T, c := nextN L s.U.length, U := s.U ++ [nextN L s.U.length] } _ from ⟨gq, _, T, nextN L s.U.length, HO3.out, fun _ => ⟨rfl, rfl⟩, hq, hsr⟩).on ((Below.refl _ _).drew.alloc (by simp) _), (HT3.out.drew).alloc _, newA_at HT3.out.size HO3.out.foot (Nat.le_refl _)⟩
end Go.Proofs.Ytfcappddncnglaa
