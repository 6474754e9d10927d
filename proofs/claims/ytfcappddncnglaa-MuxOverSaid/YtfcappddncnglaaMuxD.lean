/- Layer 40's Mux, by what it does in memory: the object, New, Push, Pop, Len. No conditions. -/
import Derived.Test.YtfcappddncnglaaMuxC
namespace Go.Proofs.Ytfcappddncnglaa
open Go.RowKit
set_option linter.unusedVariables false

def ptr (g : Nat) : Value := .pointer (some ⟨g, 0, none⟩)
/-- nine cells. -/
def nine (f : Nat → Value) (n : Value) : List Value := [f 0, f 1, f 2, f 3, f 4, f 5, f 6, f 7, n]
theorem lt8 {k : Nat} (h : k < 8) : k = 0 ∨ k = 1 ∨ k = 2 ∨ k = 3 ∨ k = 4 ∨ k = 5 ∨ k = 6 ∨ k = 7 := by omega
theorem nine_at (f : Nat → Value) (n : Value) {k : Nat} (h : k < 8) : (nine f n)[k]? = some (f k) := by
  rcases lt8 h with rfl | rfl | rfl | rfl | rfl | rfl | rfl | rfl <;> rfl
theorem nine_set (f : Nat → Value) (n v : Value) {k : Nat} (h : k < 8) : (nine f n).set k v = nine (fun i => if i = k then v else f i) n := by
  rcases lt8 h with rfl | rfl | rfl | rfl | rfl | rfl | rfl | rfl <;> rfl
theorem nine_next (f : Nat → Value) (n v : Value) : (nine f n).set 8 v = nine f v := rfl
theorem nine_congr {f g : Nat → Value} {n : Value} (h : ∀ i, i < 8 → f i = g i) : nine f n = nine g n := by
  unfold nine; rw [h 0 (by omega), h 1 (by omega), h 2 (by omega), h 3 (by omega), h 4 (by omega), h 5 (by omega), h 6 (by omega), h 7 (by omega)]
def upd (Q : Nat → List (List Nat)) (p : Nat) (q : List (List Nat)) (i : Nat) : List (List Nat) := if i = p then q else Q i
theorem upd_self (Q : Nat → List (List Nat)) (p : Nat) (q : List (List Nat)) : upd Q p q p = q := by simp [upd]
theorem upd_ne (Q : Nat → List (List Nat)) {p i : Nat} (q : List (List Nat)) (h : i ≠ p) : upd Q p q i = Q i := by simp [upd, h]
/-- the program's mux, in block gx. -/
structure MxAt (w : World) (B gx room : Nat) (Q : Nat → List (List Nat)) (next : Nat) (F : Nat → Prop) (gs : Nat → Nat) (Fs : Nat → Nat → Prop) : Prop where
  foot : Foot F B w
  own : F gx
  lt : next < 8
  blk : Blk w gx 123 (nine (fun i => ptr (gs i)) (.int .i64 (next : Nat)))
  q : ∀ i, i < 8 → Qu w B (gs i) room (Q i) (Fs i)
  sub : ∀ i, i < 8 → ∀ k, Fs i k → F k ∧ k ≠ gx
  off : ∀ i j, i < 8 → j < 8 → i ≠ j → Off (Fs i) (Fs j)
def Mx (w : World) (B gx room : Nat) (Q : Nat → List (List Nat)) (next : Nat) (F : Nat → Prop) : Prop := ∃ gs Fs, MxAt w B gx room Q next F gs Fs
section
variable {w w' : World} {B gx room next : Nat} {Q : Nat → List (List Nat)} {F : Nat → Prop} {gs : Nat → Nat} {Fs : Nat → Nat → Prop}
theorem MxAt.kept (h : MxAt w B gx room Q next F gs Fs) (hk : ∀ k, F k → w'.heap[k]? = w.heap[k]?) (hs : w.heap.size ≤ w'.heap.size) : MxAt w' B gx room Q next F gs Fs :=
  ⟨h.foot.on hs, h.own, h.lt, h.blk.kept (hk gx h.own), fun i hi => (h.q i hi).kept (fun k hf => hk k (h.sub i hi k hf).1) hs, h.sub, h.off⟩
theorem Mx.kept (h : Mx w B gx room Q next F) (hk : ∀ k, F k → w'.heap[k]? = w.heap[k]?) (hs : w.heap.size ≤ w'.heap.size) : Mx w' B gx room Q next F := by
  obtain ⟨gs, Fs, h⟩ := h
  exact ⟨gs, Fs, h.kept hk hs⟩
theorem Mx.foot (h : Mx w B gx room Q next F) : Foot F B w := by obtain ⟨_, _, h⟩ := h; exact h.foot
theorem Mx.on (h : Mx w B gx room Q next F) (hb : Below w.heap.size w w') : Mx w' B gx room Q next F := h.kept (below_kept hb h.foot) hb.size
/-- one of the queues is another one. -/
theorem MxAt.put (h : MxAt w B gx room Q next F gs Fs) {p : Nat} (hp : p < 8) {q : List (List Nat)} {F' : Nat → Prop} (ht : Turn (Fs p) F' w w') (hq : Qu w' B (gs p) room q F') :
    MxAt w' B gx room (upd Q p q) next (fun k => F k ∨ F' k) gs (fun i => if i = p then F' else Fs i) ∧ Turn F (fun k => F k ∨ F' k) w w' := by
  have hkeep : ∀ i, i < 8 → i ≠ p → ∀ k, Fs i k → w'.heap[k]? = w.heap[k]? := fun i hi hne k hf => ht.block k ((h.q i hi).1 k hf).2 (fun hp' => h.off i p hi hp hne k hf hp')
  have hx : ¬ Fs p gx := fun hf => (h.sub p hp gx hf).2 rfl
  refine ⟨⟨?_, .inl h.own, h.lt, h.blk.kept (ht.block gx (h.foot gx h.own).2 hx), ?_, ?_, ?_⟩, ⟨ht.os, ht.tape, ht.output, ht.size, fun k hk hn => ht.block k hk (fun hf => hn (h.sub p hp k hf).1), fun k hk => hk.elim .inl (fun h1 => (ht.new k h1).elim (fun h2 => .inl (h.sub p hp k h2).1) .inr)⟩⟩
  · rintro k (hk | hk)
    · exact ⟨(h.foot k hk).1, Nat.lt_of_lt_of_le (h.foot k hk).2 ht.size⟩
    · exact hq.1 k hk
  · intro i hi
    by_cases e : i = p
    · subst e
      rw [upd_self]
      simpa using hq
    · rw [upd_ne Q q e]
      simpa [e] using (h.q i hi).kept (hkeep i hi e) ht.size
  · intro i hi k hk
    by_cases e : i = p
    · subst e
      simp only [if_true] at hk
      have hlt := (hq.1 k hk).2
      rcases ht.new k hk with h1 | h1
      · exact ⟨.inl (h.sub i hi k h1).1, (h.sub i hi k h1).2⟩
      · exact ⟨.inr hk, by have := (h.foot gx h.own).2; omega⟩
    · simp only [if_neg e] at hk
      exact ⟨.inl (h.sub i hi k hk).1, (h.sub i hi k hk).2⟩
  · intro i j hi hj hne k h1 h2
    have hnew : ∀ i', i' < 8 → i' ≠ p → ∀ k, F' k → Fs i' k → False := fun i' hi' hne' k hf hf2 => (ht.new k hf).elim (fun hf3 => h.off i' p hi' hp hne' k hf2 hf3) (fun hge => by have := ((h.q i' hi').1 k hf2).2; omega)
    by_cases e1 : i = p
    · by_cases e2 : j = p
      · exact hne (e1.trans e2.symm)
      · simp only [if_pos e1] at h1
        simp only [if_neg e2] at h2
        exact hnew j hj e2 k h1 h2
    · by_cases e2 : j = p
      · simp only [if_neg e1] at h1
        simp only [if_pos e2] at h2
        exact hnew i hi e1 k h2 h1
      · simp only [if_neg e1] at h1
        simp only [if_neg e2] at h2
        exact h.off i j hi hj hne k h1 h2
/-- .. without new memory. -/
theorem MxAt.putSame (h : MxAt w B gx room Q next F gs Fs) {p : Nat} (hp : p < 8) {q : List (List Nat)} (ht : Turn (Fs p) (Fs p) w w') (hq : Qu w' B (gs p) room q (Fs p)) : MxAt w' B gx room (upd Q p q) next F gs Fs ∧ Turn F F w w' := by
  obtain ⟨a, b⟩ := h.put hp ht hq
  have e : (fun i => if i = p then Fs p else Fs i) = Fs := by funext i; by_cases e : i = p <;> simp [e]
  have e2 : (fun k => F k ∨ Fs p k) = F := by funext k; exact propext ⟨fun h1 => h1.elim id (fun h2 => (h.sub p hp k h2).1), .inl⟩
  rw [e, e2] at a
  rw [e2] at b
  exact ⟨a, b⟩
theorem MxAt.setNext (h : MxAt w B gx room Q next F gs Fs) {n : Nat} (hn : n < 8) : MxAt (w.setCell ⟨gx, 8, none⟩ (.int .i64 (n : Nat))) B gx room Q n F gs Fs ∧ Turn F F w (w.setCell ⟨gx, 8, none⟩ (.int .i64 (n : Nat))) := by
  have hs : (w.setCell ⟨gx, 8, none⟩ (.int .i64 (n : Nat))).heap.size = w.heap.size := by simp [World.setCell]
  refine ⟨⟨h.foot.on (by omega), h.own, hn, ?_, fun i hi => (h.q i hi).kept (fun k hf => Below.heap_setCell w ⟨gx, 8, none⟩ _ k (h.sub i hi k hf).2) (by omega), h.sub, h.off⟩, (Turn.refl F w).set h.own 8 _⟩
  exact h.blk.set 8 (.int .i64 (n : Nat))
end
theorem mux_is {w : World} {B gx room next : Nat} {Q : Nat → List (List Nat)} {F : Nat → Prop} (h : Mx w B gx room Q next F) :
    Calls Try.prog 68 #[.pointer (some ⟨gx, 0, none⟩)] w fun e w' => e = .returned (.bool true) ∧ w = w' := by
  obtain ⟨gs, Fs, h⟩ := h
  have c0 : w.cell? ⟨gx, 0, none⟩ = some (.pointer (some ⟨gs 0, 0, none⟩)) := h.blk.cell rfl
  clear h
  go_enter Try.func68, Try.ntmps68
  go_wp2
  go_ret
  exact ⟨rfl, rfl⟩
/-- what Push tells, and leaves. -/
def mpushE (room : Nat) (Q : Nat → List (List Nat)) (p : Int) (m : List Nat) : Nat := if putE p m = 0 then pushE room (Q p.toNat) m else putE p m
def mpushL (room : Nat) (Q : Nat → List (List Nat)) (p : Int) (m : List Nat) : Nat → List (List Nat) := if putE p m = 0 then upd Q p.toNat (pushL room (Q p.toNat) m) else Q
set_option maxRecDepth 100000 in
theorem mux_push {w : World} {B gx room next : Nat} {Q : Nat → List (List Nat)} {F : Nat → Prop} (h : Mx w B gx room Q next F) (p : Int) (A : Option Addr) (c : Nat) (m : List Nat) (hA : Rd w.heap.size w A (u8s m)) :
    Calls Try.prog 35 #[.pointer (some ⟨gx, 0, none⟩), .int .i64 p, .slice A m.length c] w fun e w' => ∃ F', e = .returned (.int .i64 (mpushE room Q p m : Nat)) ∧ Mx w' B gx room (mpushL room Q p m) next F' ∧ Turn F F' w w' := by
  have HI := hide (mux_is h)
  have HC := hide (check_any p m A c w)
  have HX := hide h
  unfold mpushE mpushL
  by_cases hp : putE p m = 0
  · rw [if_pos hp, if_pos hp]
    obtain ⟨h0, h8, h63, _⟩ := putE_ok hp
    obtain ⟨q, rfl⟩ := Int.eq_ofNat_of_zero_le h0
    obtain ⟨gs, Fs, h⟩ := h
    have hq8 : q < 8 := by omega
    have HQP := hide (que_push (h.q q hq8) A c m hA)
    have HPUT := hide (fun (w' : World) (F' : Nat → Prop) (L : List (List Nat)) (ht : Turn (Fs q) F' w w') (hq : Qu w' B (gs q) room L F') => h.put hq8 ht hq)
    have cq : w.cell? ⟨gx, q, none⟩ = some (.pointer (some ⟨gs q, 0, none⟩)) := h.blk.cell (nine_at _ _ hq8)
    rw [hp] at HC
    clear h hA hp h63 h0 hq8
    rw [Int.toNat_natCast]
    go_enter Try.func35, Try.ntmps35
    go_wp2_with fail
    refine HI.out.mono ?_; rintro e w' ⟨rfl, rfl⟩
    go_wp2_with fail
    refine HC.out.mono ?_; rintro e w' ⟨rfl, rfl⟩
    go_wp2_with fail
    refine HQP.out.mono ?_; rintro e w2 ⟨F', rfl, hq, ht⟩
    have HN := hide (HPUT.out w2 F' _ ht hq)
    clear hq ht
    go_wp2
    go_ret
    exact ⟨_, rfl, ⟨_, _, HN.out.1⟩, HN.out.2⟩
  · rw [if_neg hp, if_neg hp]
    obtain ⟨n, hn⟩ : ∃ n, n = putE p m := ⟨_, rfl⟩
    rw [← hn] at HC hp ⊢
    have hne : ((n : Int) != 0) = true := by simp; omega
    clear hn hp hA h
    go_enter Try.func35, Try.ntmps35
    go_wp2_with fail
    refine HI.out.mono ?_; rintro e w' ⟨rfl, rfl⟩
    go_wp2_with fail
    refine HC.out.mono ?_; rintro e w' ⟨rfl, rfl⟩
    go_wp2
    go_ret
    exact ⟨F, rfl, HX.out, Turn.refl F w⟩
end Go.Proofs.Ytfcappddncnglaa
