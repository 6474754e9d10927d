/- Layer 40's reference Mux, by what it does in memory. No conditions. -/
import Derived.Test.YtfcappddncnglaaMuxI
namespace Go.Proofs.Ytfcappddncnglaa
open Go.RowKit
set_option linter.unusedVariables false

theorem Try.infP : (Try.prog.info? 29).map (fun i => (i.zero, i.size, i.bytes)) = some (some (.pointer none), 1, 8) := by kernel_rfl
theorem RQu.base {w : World} {B B' g room : Nat} {ms : List (List Nat)} {F : Nat → Prop} (h : RQu w B' g room ms F) (hb : B ≤ B') : RQu w B g room ms F := ⟨h.1.down hb, h.2⟩
def ptrs (gs : Nat → Nat) (k : Nat) : List Value := (List.range k).map fun i => ptr (gs i)
theorem ptrs_at (gs : Nat → Nat) {k i : Nat} (h : i < k) : (ptrs gs k)[i]? = some (ptr (gs i)) := by simp [ptrs, h]
theorem ptrs_succ (gs : Nat → Nat) (k : Nat) : ptrs gs (k + 1) = ptrs gs k ++ [ptr (gs k)] := by simp [ptrs, List.range_succ]
theorem ptrs_congr {gs hs : Nat → Nat} {k : Nat} (h : ∀ i, i < k → gs i = hs i) : ptrs gs k = ptrs hs k := by
  unfold ptrs; apply List.map_congr_left; intro i hi; rw [h i (by simpa using hi)]
/-- the reference's mux, in block gx. -/
structure RMxAt (w : World) (B gx room : Nat) (Q : Nat → List (List Nat)) (next : Nat) (F : Nat → Prop) (gs : Nat → Nat) (Fs : Nat → Nat → Prop) (gr c : Nat) : Prop where
  foot : Foot F B w
  own : F gx
  lt : next < 8
  blk : Blk w gx 78 [.slice (some ⟨gr, 0, none⟩) 8 c, .int .i64 (next : Nat)]
  row : ∀ i, i < 8 → w.cell? ⟨gr, i, none⟩ = some (ptr (gs i))
  rown : F gr ∧ gr ≠ gx ∧ ∀ i, i < 8 → ¬ Fs i gr
  q : ∀ i, i < 8 → RQu w B (gs i) room (Q i) (Fs i)
  sub : ∀ i, i < 8 → ∀ k, Fs i k → F k ∧ k ≠ gx
  off : ∀ i j, i < 8 → j < 8 → i ≠ j → Off (Fs i) (Fs j)
def RMx (w : World) (B gx room : Nat) (Q : Nat → List (List Nat)) (next : Nat) (F : Nat → Prop) : Prop := ∃ gs Fs gr c, RMxAt w B gx room Q next F gs Fs gr c
section
variable {w w' : World} {B gx room next gr c : Nat} {Q : Nat → List (List Nat)} {F : Nat → Prop} {gs : Nat → Nat} {Fs : Nat → Nat → Prop}
theorem RMxAt.kept (h : RMxAt w B gx room Q next F gs Fs gr c) (hk : ∀ k, F k → w'.heap[k]? = w.heap[k]?) (hs : w.heap.size ≤ w'.heap.size) : RMxAt w' B gx room Q next F gs Fs gr c :=
  ⟨h.foot.on hs, h.own, h.lt, h.blk.kept (hk gx h.own), fun i hi => (World.cell?_of_block (hk gr h.rown.1)).trans (h.row i hi), h.rown, fun i hi => (h.q i hi).kept (fun k hf => hk k (h.sub i hi k hf).1) hs, h.sub, h.off⟩
theorem RMx.kept (h : RMx w B gx room Q next F) (hk : ∀ k, F k → w'.heap[k]? = w.heap[k]?) (hs : w.heap.size ≤ w'.heap.size) : RMx w' B gx room Q next F := by
  obtain ⟨gs, Fs, gr, c, h⟩ := h
  exact ⟨gs, Fs, gr, c, h.kept hk hs⟩
theorem RMx.foot (h : RMx w B gx room Q next F) : Foot F B w := by obtain ⟨_, _, _, _, h⟩ := h; exact h.foot
theorem RMx.on (h : RMx w B gx room Q next F) (hb : Below w.heap.size w w') : RMx w' B gx room Q next F := h.kept (below_kept hb h.foot) hb.size
theorem RMxAt.put (h : RMxAt w B gx room Q next F gs Fs gr c) {p : Nat} (hp : p < 8) {q : List (List Nat)} {F' : Nat → Prop} (ht : Turn (Fs p) F' w w') (hq : RQu w' B (gs p) room q F') :
    RMxAt w' B gx room (upd Q p q) next (fun k => F k ∨ F' k) gs (fun i => if i = p then F' else Fs i) gr c ∧ Turn F (fun k => F k ∨ F' k) w w' := by
  have hkeep : ∀ i, i < 8 → i ≠ p → ∀ k, Fs i k → w'.heap[k]? = w.heap[k]? := fun i hi hne k hf => ht.block k ((h.q i hi).1 k hf).2 (fun hp' => h.off i p hi hp hne k hf hp')
  have hx : ¬ Fs p gx := fun hf => (h.sub p hp gx hf).2 rfl
  refine ⟨⟨?_, .inl h.own, h.lt, h.blk.kept (ht.block gx (h.foot gx h.own).2 hx), fun i hi => (World.cell?_of_block (ht.block gr (h.foot gr h.rown.1).2 (h.rown.2.2 p hp))).trans (h.row i hi), ⟨.inl h.rown.1, h.rown.2.1, ?_⟩, ?_, ?_, ?_⟩, ⟨ht.os, ht.tape, ht.output, ht.size, fun k hk hn => ht.block k hk (fun hf => hn (h.sub p hp k hf).1), fun k hk => hk.elim .inl (fun h1 => (ht.new k h1).elim (fun h2 => .inl (h.sub p hp k h2).1) .inr)⟩⟩
  · rintro k (hk | hk)
    · exact ⟨(h.foot k hk).1, Nat.lt_of_lt_of_le (h.foot k hk).2 ht.size⟩
    · exact hq.1 k hk
  · intro i hi hf
    by_cases e : i = p
    · simp only [if_pos e] at hf
      exact (ht.new gr hf).elim (h.rown.2.2 p hp) (by have := (h.foot gr h.rown.1).2; omega)
    · simp only [if_neg e] at hf
      exact h.rown.2.2 i hi hf
  · intro i hi
    by_cases e : i = p
    · subst e
      rw [upd_self]
      simpa using hq
    · rw [upd_ne Q q e]
      simpa [e] using (h.q i hi).kept (hkeep i hi e) ht.size
  · intro i hi k hk
    by_cases e : i = p
    · subst e
      simp only [if_true] at hk
      rcases ht.new k hk with h1 | h1
      · exact ⟨.inl (h.sub i hi k h1).1, (h.sub i hi k h1).2⟩
      · exact ⟨.inr hk, by have := (h.foot gx h.own).2; omega⟩
    · simp only [if_neg e] at hk
      exact ⟨.inl (h.sub i hi k hk).1, (h.sub i hi k hk).2⟩
  · intro i j hi hj hne k h1 h2
    have hnew : ∀ i', i' < 8 → i' ≠ p → ∀ k, F' k → Fs i' k → False := fun i' hi' hne' k hf hf2 => (ht.new k hf).elim (fun hf3 => h.off i' p hi' hp hne' k hf2 hf3) (fun hge => by have := ((h.q i' hi').1 k hf2).2; omega)
    by_cases e1 : i = p
    · by_cases e2 : j = p
      · exact hne (e1.trans e2.symm)
      · simp only [if_pos e1] at h1
        simp only [if_neg e2] at h2
        exact hnew j hj e2 k h1 h2
    · by_cases e2 : j = p
      · simp only [if_neg e1] at h1
        simp only [if_pos e2] at h2
        exact hnew i hi e1 k h2 h1
      · simp only [if_neg e1] at h1
        simp only [if_neg e2] at h2
        exact h.off i j hi hj hne k h1 h2
theorem RMxAt.setNext (h : RMxAt w B gx room Q next F gs Fs gr c) {n : Nat} (hn : n < 8) : RMxAt (w.setCell ⟨gx, 1, none⟩ (.int .i64 (n : Nat))) B gx room Q n F gs Fs gr c ∧ Turn F F w (w.setCell ⟨gx, 1, none⟩ (.int .i64 (n : Nat))) := by
  have hs : (w.setCell ⟨gx, 1, none⟩ (.int .i64 (n : Nat))).heap.size = w.heap.size := by simp [World.setCell]
  exact ⟨⟨h.foot.on (by omega), h.own, hn, h.blk.set 1 (.int .i64 (n : Nat)), fun i hi => (World.cell?_of_block (Below.heap_setCell w ⟨gx, 1, none⟩ _ gr h.rown.2.1)).trans (h.row i hi), h.rown, fun i hi => (h.q i hi).kept (fun k hf => Below.heap_setCell w ⟨gx, 1, none⟩ _ k (h.sub i hi k hf).2) (by omega), h.sub, h.off⟩, (Turn.refl F w).set h.own 1 _⟩
end
theorem rmux_push {w : World} {B gx room next : Nat} {Q : Nat → List (List Nat)} {F : Nat → Prop} (h : RMx w B gx room Q next F) (p : Int) (A : Option Addr) (c : Nat) (m : List Nat) (hA : Rd w.heap.size w A (u8s m)) :
    Calls Try.prog 43 #[.pointer (some ⟨gx, 0, none⟩), .int .i64 p, .slice A m.length c] w fun e w' => ∃ F', e = .returned (.int .i64 (mpushE room Q p m : Nat)) ∧ RMx w' B gx room (mpushL room Q p m) next F' ∧ Turn F F' w w' := by
  have HPU := hide (rput_any p A c m w hA)
  have HX := hide h
  unfold mpushE mpushL
  by_cases hp : putE p m = 0
  · rw [if_pos hp, if_pos hp]
    obtain ⟨h0, h8, h63, hM⟩ := putE_ok hp
    obtain ⟨q, rfl⟩ := Int.eq_ofNat_of_zero_le h0
    have hq8 : q < 8 := by omega
    have HQ8 := hide hq8
    have HA := hide hA
    have HP2 : Hid (Calls Try.prog 39 #[.int .i64 (q : Nat), .slice A m.length c] w fun e w' => ∃ A c n, e = .returned (.tuple #[.slice A n c, .int .i64 0]) ∧ Below w.heap.size w w') := by
      refine HPU.out.mono ?_
      rintro e w' ⟨A, c, he, _, hb⟩
      rw [hp] at he
      exact ⟨A, c, _, he, hb⟩
    have hq7 : (q : Int) < 8 := by omega
    have hq0 : (0 : Int) ≤ (q : Int) := by omega
    clear h hA hp h63 h0 hq8 hM h8
    rw [Int.toNat_natCast]
    go_enter Try.func43, Try.ntmps43
    go_wp2_with fail
    refine HP2.out.mono ?_; rintro e w1 ⟨A1, c1, n1, rfl, hb⟩
    obtain ⟨gs, Fs, gr, cr, h⟩ := HX.out.on hb
    have c0 : w1.cell? ⟨gx, 0, none⟩ = some (.slice (some ⟨gr, 0, none⟩) 8 cr) := h.blk.cell rfl
    have cq : w1.cell? ⟨gr, q, none⟩ = some (.pointer (some ⟨gs q, 0, none⟩)) := h.row q HQ8.out
    have HQP := hide (rque_push (h.q q HQ8.out) A c m (HA.out.on hb))
    have HPUT := hide (fun (w' : World) (F' : Nat → Prop) (L : List (List Nat)) (ht : Turn (Fs q) F' w1 w') (hq : RQu w' B (gs q) room L F') => h.put HQ8.out ht hq)
    have HB := hide hb
    clear h hb
    go_wp2_with fail
    refine HQP.out.mono ?_; rintro e w2 ⟨F', rfl, hq, ht⟩
    have HN := hide (HPUT.out w2 F' _ ht hq)
    clear hq ht
    go_wp2
    go_ret
    exact ⟨_, rfl, ⟨_, _, _, _, HN.out.1⟩, (Turn.of_below HB.out).trans HN.out.2⟩
  · rw [if_neg hp, if_neg hp]
    have HP2 : Hid (Calls Try.prog 39 #[.int .i64 p, .slice A m.length c] w fun e w' => ∃ A c n, e = .returned (.tuple #[.slice A n c, .int .i64 (putE p m : Nat)]) ∧ Below w.heap.size w w') := by
      refine HPU.out.mono ?_
      rintro e w' ⟨A, c, he, _, hb⟩
      exact ⟨A, c, _, he, hb⟩
    obtain ⟨n, hn⟩ : ∃ n, n = putE p m := ⟨_, rfl⟩
    rw [← hn] at HP2 hp ⊢
    have hne : ((n : Int) != 0) = true := by simp; omega
    clear hn hp hA h HPU
    go_enter Try.func43, Try.ntmps43
    go_wp2_with fail
    refine HP2.out.mono ?_; rintro e w1 ⟨A1, c1, n1, rfl, hb⟩
    have HB := hide hb
    clear hb
    go_wp2
    go_ret
    exact ⟨F, rfl, HX.out.on HB.out, Turn.of_below HB.out⟩
/-- what Pop tells, with the text's memory. -/
def RMPopR (w : World) (B gx room : Nat) (F : Nat → Prop) (f : List Nat) (b : Bool) (Q' : Nat → List (List Nat)) (next' : Nat) (e : Ending) (w' : World) : Prop :=
  ∃ A c F', e = .returned (.tuple #[.slice A f.length c, .bool b]) ∧ Rd w'.heap.size w' A (u8s f) ∧ RMx w' B gx room Q' next' F' ∧ Turn F F' w w'
theorem rmux_pop {w : World} {B gx room next : Nat} {Q : Nat → List (List Nat)} {F : Nat → Prop} (h : RMx w B gx room Q next F) (p : Int) :
    Calls Try.prog 48 #[.pointer (some ⟨gx, 0, none⟩), .int .i64 p] w (RMPopR w B gx room F (mpopF Q p) (mpopB Q p) (mpopQ Q p) next) := by
  have HX := hide h
  unfold mpopF mpopB mpopQ
  by_cases hp : 0 ≤ p ∧ p < 8
  · rw [if_pos hp, if_pos hp, if_pos hp]
    obtain ⟨q, rfl⟩ := Int.eq_ofNat_of_zero_le hp.1
    have hq8 : q < 8 := by omega
    obtain ⟨gs, Fs, gr, cr, h⟩ := h
    rw [Int.toNat_natCast]
    have HL := hide (rque_popV (h.q q hq8))
    have HPUT := hide (fun (w' : World) (F' : Nat → Prop) (L : List (List Nat)) (ht : Turn (Fs q) F' w w') (hq : RQu w' B (gs q) room L F') => h.put hq8 ht hq)
    have c0 : w.cell? ⟨gx, 0, none⟩ = some (.slice (some ⟨gr, 0, none⟩) 8 cr) := h.blk.cell rfl
    have cq : w.cell? ⟨gr, q, none⟩ = some (.pointer (some ⟨gs q, 0, none⟩)) := h.row q hq8
    obtain ⟨f, hf⟩ : ∃ f, f = (getAt (Q q) 0).getD [] := ⟨_, rfl⟩
    obtain ⟨b, hb⟩ : ∃ b, b = (getAt (Q q) 0).isSome := ⟨_, rfl⟩
    rw [← hf, ← hb] at HL ⊢
    have hq7 : ¬ (7 : Int) < (q : Int) := by omega
    have hq6 : (q : Int) < 8 := by omega
    clear h hq8 hf hb hp
    go_enter Try.func48, Try.ntmps48
    go_wp2_with fail
    refine HL.out.mono ?_; rintro e w2 ⟨A, c, F', rfl, ho, hq, ht⟩
    have HN := hide (HPUT.out w2 F' _ ht hq)
    have HO := hide ho
    clear ho hq ht
    go_wp2
    go_ret2
    exact ⟨A, c, _, rfl, HO.out, ⟨_, _, _, _, HN.out.1⟩, HN.out.2⟩
  · rw [if_neg hp, if_neg hp, if_neg hp]
    by_cases h0 : p < 0
    · clear hp h
      go_enter Try.func48, Try.ntmps48
      go_wp2
      go_ret2
      exact ⟨none, 0, F, rfl, Rd.nil _ _ _, HX.out, Turn.refl F w⟩
    · have h7 : (7 : Int) < p := by omega
      clear hp h
      go_enter Try.func48, Try.ntmps48
      go_wp2
      go_ret2
      exact ⟨none, 0, F, rfl, Rd.nil _ _ _, HX.out, Turn.refl F w⟩
end Go.Proofs.Ytfcappddncnglaa
