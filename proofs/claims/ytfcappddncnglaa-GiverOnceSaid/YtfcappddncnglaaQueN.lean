/- Layer 19's queue and its reference's, side by side: the contracts that QueueDoes takes. No conditions. -/
import Derived.Test.YtfcappddncnglaaQueM
import Derived.Test.YtfcappddncnglaaQueI
namespace Go.Proofs.Ytfcappddncnglaa
open Go.RowKit
set_option linter.unusedVariables false

/-- a text and whether there is one, in new memory. -/
def AtV (f : List Nat) (b : Bool) (w : World) (e : Ending) (w' : World) : Prop :=
  ∃ A c, e = .returned (.tuple #[.slice A f.length c, .bool b]) ∧ Rd w'.heap.size w' A (u8s f) ∧ Below w.heap.size w w'
theorem AtR.v {o : Option (List Nat)} {w : World} {e : Ending} {w' : World} (h : AtR o w e w') : AtV (o.getD []) o.isSome w e w' := by
  obtain ⟨A, c, he, ho, hb⟩ := h
  exact ⟨A, c, he, own_rd ho, hb⟩
section
variable {w : World} {B g room : Nat} {ms : List (List Nat)} {F : Nat → Prop}
theorem que_atV (h : Qu w B g room ms F) (i : Int) : Calls Try.prog 25 #[.pointer (some ⟨g, 0, none⟩), .int .i64 i] w (AtV ((getAt ms i).getD []) (getAt ms i).isSome w) := (que_at h i).mono fun e w' h => h.v
theorem que_frontV (h : Qu w B g room ms F) : Calls Try.prog 23 #[.pointer (some ⟨g, 0, none⟩)] w (AtV ((getAt ms 0).getD []) (getAt ms 0).isSome w) := (que_front h).mono fun e w' h => h.v
theorem rque_atV (h : RQu w B g room ms F) (i : Int) : Calls Try.prog 24 #[.pointer (some ⟨g, 0, none⟩), .int .i64 i] w (AtV ((getAt ms i).getD []) (getAt ms i).isSome w) := (rque_at h i).mono fun e w' h => h.v
theorem getAt_len (h : ∀ m ∈ ms, m.length ≤ 64) (i : Int) : ((getAt ms i).getD []).length ≤ 64 := by
  unfold getAt
  by_cases h0 : i < 0
  · rw [if_pos h0]; simp
  · rw [if_neg h0]
    by_cases h1 : i.toNat < ms.length
    · rw [List.getElem?_eq_getElem h1]; exact h _ (List.getElem_mem h1)
    · rw [List.getElem?_eq_none (by omega)]; simp
/-- what popping tells, with the text's memory. -/
def PopV (f : List Nat) (b : Bool) (w : World) (B g room : Nat) (ms : List (List Nat)) (F : Nat → Prop) (e : Ending) (w' : World) : Prop :=
  ∃ A c, e = .returned (.tuple #[.slice A f.length c, .bool b]) ∧ w'.ownsRow w.heap.size 5 1 (.slice A f.length c) f.length (u8s f) ∧ Qu w' B g room ms.tail F ∧ Turn F F w w'
def RPopV (f : List Nat) (b : Bool) (w : World) (B g room : Nat) (ms : List (List Nat)) (F : Nat → Prop) (e : Ending) (w' : World) : Prop :=
  ∃ A c F', e = .returned (.tuple #[.slice A f.length c, .bool b]) ∧ Rd w'.heap.size w' A (u8s f) ∧ RQu w' B g room ms.tail F' ∧ Turn F F' w w'
theorem que_popV (h : Qu w B g room ms F) : Calls Try.prog 18 #[.pointer (some ⟨g, 0, none⟩)] w (PopV ((getAt ms 0).getD []) (getAt ms 0).isSome w B g room ms F) := que_pop h
theorem rque_popV (h : RQu w B g room ms F) : Calls Try.prog 19 #[.pointer (some ⟨g, 0, none⟩)] w (RPopV ((getAt ms 0).getD []) (getAt ms 0).isSome w B g room ms F) := rque_pop h
theorem que_freeB (h : Qu w B g room ms F) : Calls Try.prog 27 #[.pointer (some ⟨g, 0, none⟩)] w fun e w' => e = .returned (.int .i64 (room - ms.length : Nat)) ∧ Below w.heap.size w w' :=
  (que_free h).mono fun e w' ⟨he, n, hn⟩ => ⟨he, by rw [hn]; exact below_drewN (Below.refl _ _) n⟩
theorem sameAll_eqB {A C : Option Addr} {c d : Nat} {vs us : List Value} (hA : Rd w.heap.size w A vs) (hC : Rd w.heap.size w C us) (ha : Txs w vs ms) (hc : Txs w us ms) (hl : ms.length ≤ 9223372036854775807) (hm : ∀ m ∈ ms, m.length ≤ 9223372036854775807) :
    Calls Try.prog 28 #[.slice A ms.length c, .slice C ms.length d] w fun e w' => e = .returned (.bool true) ∧ Below w.heap.size w w' :=
  (sameAll_eq hA hC ha hc hl hm).mono fun e w' ⟨he, n, hn⟩ => ⟨he, by rw [hn]; exact below_drewN (Below.refl _ _) n⟩
end
/-- both queues, off one another. -/
structure Both (w0 w : World) (B2 g gr room : Nat) (ms : List (List Nat)) (F G : Nat → Prop) : Prop where
  q : Qu w w0.heap.size g room ms F
  r : RQu w B2 gr room ms G
  off : Off F G
  lo : w0.heap.size ≤ B2
  bel : Below w0.heap.size w0 w
section
variable {w0 w w2 : World} {B2 g gr room : Nat} {ms ms' : List (List Nat)} {F F' G G' : Nat → Prop}
theorem Both.on (h : Both w0 w B2 g gr room ms F G) (hb : Below w.heap.size w w2) : Both w0 w2 B2 g gr room ms F G := ⟨h.q.on hb, h.r.on hb, h.off, h.lo, below2 h.bel hb (Nat.le_refl _)⟩
/-- the program's turned; then the reference's. -/
theorem Both.step {w1 : World} (h : Both w0 w B2 g gr room ms F G) (ht : Turn F F' w w1) (hq : Qu w1 w0.heap.size g room ms' F') (ht2 : Turn G G' w1 w2) (hr : RQu w2 B2 gr room ms' G') : Both w0 w2 B2 g gr room ms' F' G' := by
  have o1 : Off F' G := ht.off h.off h.r.1
  have r1 : RQu w1 B2 gr room ms G := h.r.kept (ht.kept h.off h.r.1) ht.size
  have o2 : Off G' F' := ht2.off o1.symm hq.1
  exact ⟨hq.kept (ht2.kept o1.symm hq.1) ht2.size, hr, o2.symm, h.lo, ht2.below (ht.below h.bel h.q.1 h.bel.size) (r1.1.down h.lo) (Nat.le_trans h.bel.size ht.size)⟩
theorem Both.mid {w1 : World} (h : Both w0 w B2 g gr room ms F G) (ht : Turn F F' w w1) : RQu w1 B2 gr room ms G := h.r.kept (ht.kept h.off h.r.1) ht.size
/-- what is new is off the reference's. -/
theorem Both.own {w1 : World} {v : Value} {n : Nat} {xs : List Value} (h : Both w0 w B2 g gr room ms F G) (ho : w1.ownsRow w.heap.size 5 1 v n xs) (ht2 : Turn G G' w1 w2) : w2.ownsRow w.heap.size 5 1 v n xs :=
  own_keep ho fun k hk => ht2.block k (own_block_lt ho hk).2 fun hg => by have := (h.r.1 k hg).2; have := (own_block_lt ho hk).1; omega
end
end Go.Proofs.Ytfcappddncnglaa
