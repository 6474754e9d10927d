/- An object in memory that leads to n others, each with blocks of its own. No conditions. -/
import Derived.Test.YtnbhgeodbpelgaaSep
namespace Go.Proofs.Ytnbhgeodbpelgaa
open Go.RowKit
set_option linter.unusedVariables false

structure Ob (w : World) (B gx n : Nat) (ty : TypeId) (cs : List Value) (F : Nat → Prop) (Fs : Nat → Nat → Prop) : Prop where
  foot : Foot F B w
  own : F gx
  blk : Blk w gx ty cs
  fs : ∀ i, i < n → Foot (Fs i) B w
  sub : ∀ i, i < n → ∀ k, Fs i k → F k ∧ k ≠ gx
  off : ∀ i j, i < n → j < n → i ≠ j → Off (Fs i) (Fs j)
section
variable {w w' : World} {B gx n : Nat} {ty : TypeId} {cs : List Value} {F : Nat → Prop} {Fs : Nat → Nat → Prop}
theorem Ob.kept (h : Ob w B gx n ty cs F Fs) (hk : ∀ k, F k → w'.heap[k]? = w.heap[k]?) (hs : w.heap.size ≤ w'.heap.size) : Ob w' B gx n ty cs F Fs :=
  ⟨h.foot.on hs, h.own, h.blk.kept (hk gx h.own), fun i hi => (h.fs i hi).on hs, h.sub, h.off⟩
theorem Ob.on (h : Ob w B gx n ty cs F Fs) (hb : Below w.heap.size w w') : Ob w' B gx n ty cs F Fs := h.kept (below_kept hb h.foot) hb.size
theorem Ob.part (h : Ob w B gx n ty cs F Fs) {i : Nat} (hi : i < n) (hk : ∀ k, F k → w'.heap[k]? = w.heap[k]?) : ∀ k, Fs i k → w'.heap[k]? = w.heap[k]? := fun k hf => hk k (h.sub i hi k hf).1
/-- one of the others has turned. -/
theorem Ob.put (h : Ob w B gx n ty cs F Fs) {p : Nat} (hp : p < n) {F' : Nat → Prop} (ht : Turn (Fs p) F' w w') (hf : Foot F' B w') :
    Ob w' B gx n ty cs (fun k => F k ∨ F' k) (fun i => if i = p then F' else Fs i) ∧ Turn F (fun k => F k ∨ F' k) w w' ∧ ∀ i, i < n → i ≠ p → ∀ k, Fs i k → w'.heap[k]? = w.heap[k]? := by
  have hkeep : ∀ i, i < n → i ≠ p → ∀ k, Fs i k → w'.heap[k]? = w.heap[k]? := fun i hi hne k hf => ht.block k ((h.fs i hi) k hf).2 (fun hp' => h.off i p hi hp hne k hf hp')
  have hx : ¬ Fs p gx := fun hf => (h.sub p hp gx hf).2 rfl
  refine ⟨⟨?_, .inl h.own, h.blk.kept (ht.block gx (h.foot gx h.own).2 hx), ?_, ?_, ?_⟩, ⟨ht.os, ht.tape, ht.output, ht.size, fun k hk hn => ht.block k hk (fun hf => hn (h.sub p hp k hf).1), fun k hk => hk.elim .inl (fun h1 => (ht.new k h1).elim (fun h2 => .inl (h.sub p hp k h2).1) .inr)⟩, hkeep⟩
  · rintro k (hk | hk)
    · exact ⟨(h.foot k hk).1, Nat.lt_of_lt_of_le (h.foot k hk).2 ht.size⟩
    · exact hf k hk
  · intro i hi
    by_cases e : i = p
    · simpa [e] using hf
    · simpa [e] using (h.fs i hi).on ht.size
  · intro i hi k hk
    by_cases e : i = p
    · subst e
      simp only [if_true] at hk
      rcases ht.new k hk with h1 | h1
      · exact ⟨.inl (h.sub i hi k h1).1, (h.sub i hi k h1).2⟩
      · exact ⟨.inr hk, by have := (h.foot gx h.own).2; omega⟩
    · simp only [if_neg e] at hk
      exact ⟨.inl (h.sub i hi k hk).1, (h.sub i hi k hk).2⟩
  · intro i j hi hj hne k h1 h2
    have hnew : ∀ i', i' < n → i' ≠ p → ∀ k, F' k → Fs i' k → False := fun i' hi' hne' k hf hf2 => (ht.new k hf).elim (fun hf3 => h.off i' p hi' hp hne' k hf2 hf3) (fun hge => by have := ((h.fs i' hi') k hf2).2; omega)
    by_cases e1 : i = p
    · by_cases e2 : j = p
      · exact hne (e1.trans e2.symm)
      · simp only [if_pos e1] at h1
        simp only [if_neg e2] at h2
        exact hnew j hj e2 k h1 h2
    · by_cases e2 : j = p
      · simp only [if_neg e1] at h1
        simp only [if_pos e2] at h2
        exact hnew i hi e1 k h2 h1
      · simp only [if_neg e1] at h1
        simp only [if_neg e2] at h2
        exact h.off i j hi hj hne k h1 h2
/-- one of the object's own cells is another one. -/
theorem Ob.set (h : Ob w B gx n ty cs F Fs) (o : Nat) (v : Value) :
    Ob (w.setCell ⟨gx, o, none⟩ v) B gx n ty (cs.set o v) F Fs ∧ Turn F F w (w.setCell ⟨gx, o, none⟩ v) ∧ ∀ i, i < n → ∀ k, Fs i k → (w.setCell ⟨gx, o, none⟩ v).heap[k]? = w.heap[k]? := by
  have hs : (w.setCell ⟨gx, o, none⟩ v).heap.size = w.heap.size := by simp [World.setCell]
  exact ⟨⟨h.foot.on (by omega), h.own, h.blk.set o v, fun i hi => (h.fs i hi).on (by omega), h.sub, h.off⟩, (Turn.refl F w).set h.own o v, fun i hi k hk => Below.heap_setCell w ⟨gx, o, none⟩ v k (h.sub i hi k hk).2⟩
theorem Ob.set2 (h : Ob w B gx n ty cs F Fs) (o1 : Nat) (v1 : Value) (o2 : Nat) (v2 : Value) :
    Ob ((w.setCell ⟨gx, o1, none⟩ v1).setCell ⟨gx, o2, none⟩ v2) B gx n ty ((cs.set o1 v1).set o2 v2) F Fs ∧ Turn F F w ((w.setCell ⟨gx, o1, none⟩ v1).setCell ⟨gx, o2, none⟩ v2) ∧ ∀ i, i < n → ∀ k, Fs i k → ((w.setCell ⟨gx, o1, none⟩ v1).setCell ⟨gx, o2, none⟩ v2).heap[k]? = w.heap[k]? := by
  obtain ⟨a1, b1, c1⟩ := h.set o1 v1
  obtain ⟨a2, b2, c2⟩ := a1.set o2 v2
  exact ⟨a2, b1.trans b2, fun i hi k hk => (c2 i hi k hk).trans (c1 i hi k hk)⟩
theorem Ob.set2d (h : Ob w B gx n ty cs F Fs) (o1 : Nat) (v1 : Value) (o2 : Nat) (v2 : Value) :
    Ob ((w.setCell ⟨gx, o1, none⟩ v1).setCell ⟨gx, o2, none⟩ v2).drew B gx n ty ((cs.set o1 v1).set o2 v2) F Fs ∧ Turn F F w ((w.setCell ⟨gx, o1, none⟩ v1).setCell ⟨gx, o2, none⟩ v2).drew ∧ ∀ i, i < n → ∀ k, Fs i k → ((w.setCell ⟨gx, o1, none⟩ v1).setCell ⟨gx, o2, none⟩ v2).drew.heap[k]? = w.heap[k]? := by
  obtain ⟨a, b, c⟩ := h.set2 o1 v1 o2 v2
  exact ⟨a.kept (fun _ _ => rfl) (Nat.le_refl _), b.drew, c⟩
theorem Ob.set3 (h : Ob w B gx n ty cs F Fs) (o1 : Nat) (v1 : Value) (o2 : Nat) (v2 : Value) (o3 : Nat) (v3 : Value) :
    Ob (((w.setCell ⟨gx, o1, none⟩ v1).setCell ⟨gx, o2, none⟩ v2).setCell ⟨gx, o3, none⟩ v3) B gx n ty (((cs.set o1 v1).set o2 v2).set o3 v3) F Fs ∧ Turn F F w (((w.setCell ⟨gx, o1, none⟩ v1).setCell ⟨gx, o2, none⟩ v2).setCell ⟨gx, o3, none⟩ v3) ∧ ∀ i, i < n → ∀ k, Fs i k → (((w.setCell ⟨gx, o1, none⟩ v1).setCell ⟨gx, o2, none⟩ v2).setCell ⟨gx, o3, none⟩ v3).heap[k]? = w.heap[k]? := by
  obtain ⟨a1, b1, c1⟩ := h.set2 o1 v1 o2 v2
  obtain ⟨a2, b2, c2⟩ := a1.set o3 v3
  exact ⟨a2, b1.trans b2, fun i hi k hk => (c2 i hi k hk).trans (c1 i hi k hk)⟩
theorem Ob.set3d (h : Ob w B gx n ty cs F Fs) (o1 : Nat) (v1 : Value) (o2 : Nat) (v2 : Value) (o3 : Nat) (v3 : Value) :
    Ob (((w.setCell ⟨gx, o1, none⟩ v1).setCell ⟨gx, o2, none⟩ v2).setCell ⟨gx, o3, none⟩ v3).drew B gx n ty (((cs.set o1 v1).set o2 v2).set o3 v3) F Fs ∧ Turn F F w (((w.setCell ⟨gx, o1, none⟩ v1).setCell ⟨gx, o2, none⟩ v2).setCell ⟨gx, o3, none⟩ v3).drew ∧ ∀ i, i < n → ∀ k, Fs i k → (((w.setCell ⟨gx, o1, none⟩ v1).setCell ⟨gx, o2, none⟩ v2).setCell ⟨gx, o3, none⟩ v3).drew.heap[k]? = w.heap[k]? := by
  obtain ⟨a, b, c⟩ := h.set3 o1 v1 o2 v2 o3 v3
  exact ⟨a.kept (fun _ _ => rfl) (Nat.le_refl _), b.drew, c⟩
/-- a new object that leads to what has been made. -/
theorem Ob.new (w : World) {B : Nat} (hB : B ≤ w.heap.size) (n : Nat) (ty : TypeId) (cs : List Value) (F : Nat → Prop) (Fs : Nat → Nat → Prop) (hF : Foot F B w) (hsub : ∀ i, i < n → ∀ k, Fs i k → F k) (hoff : ∀ i j, i < n → j < n → i ≠ j → Off (Fs i) (Fs j)) :
    Ob (w.alloc (.cells cs.toArray ty)) B w.heap.size n ty cs (fun k => F k ∨ k = w.heap.size) Fs ∧ Turn F (fun k => F k ∨ k = w.heap.size) w (w.alloc (.cells cs.toArray ty)) := by
  have hs : (w.alloc (.cells cs.toArray ty)).heap.size = w.heap.size + 1 := by simp
  have hsub2 : ∀ i, i < n → ∀ k, Fs i k → B ≤ k ∧ k < w.heap.size := fun i hi k hk => hF k (hsub i hi k hk)
  refine ⟨⟨?_, .inr rfl, Blk.new w ty cs, fun i hi k hk => ?_, fun i hi k hk => ⟨.inl (hsub i hi k hk), ?_⟩, hoff⟩, ((Turn.refl F w).alloc _).more (fun k hk => hk.elim .inl (fun e => .inr (by omega)))⟩
  · rintro k (hk | rfl)
    · exact ⟨(hF k hk).1, by have := (hF k hk).2; omega⟩
    · exact ⟨hB, by omega⟩
  · exact ⟨(hsub2 i hi k hk).1, by have := (hsub2 i hi k hk).2; omega⟩
  · have := (hsub2 i hi k hk).2; omega
end
end Go.Proofs.Ytnbhgeodbpelgaa
