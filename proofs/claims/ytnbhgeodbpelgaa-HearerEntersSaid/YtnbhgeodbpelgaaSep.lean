/- What an object in memory may turn: its blocks; objects apart from one another. No conditions. -/
import Derived.Test.YtnbhgeodbpelgaaBlk
import Derived.Lib.SliceRun
namespace Go.Proofs.Ytnbhgeodbpelgaa
open Go.RowKit
set_option linter.unusedVariables false

/-- F's blocks are there, none below B. -/
def Foot (F : Nat → Prop) (B : Nat) (w : World) : Prop := ∀ k, F k → B ≤ k ∧ k < w.heap.size
/-- no block is in both. -/
def Off (F G : Nat → Prop) : Prop := ∀ k, F k → G k → False
/-- of what was there only F's blocks may have turned; F' has no other old block. -/
structure Turn (F F' : Nat → Prop) (w w' : World) : Prop where
  os : w'.os = w.os
  tape : w'.tape = w.tape
  output : w'.output = w.output
  size : w.heap.size ≤ w'.heap.size
  block : ∀ k, k < w.heap.size → ¬ F k → w'.heap[k]? = w.heap[k]?
  new : ∀ k, F' k → F k ∨ w.heap.size ≤ k
theorem Turn.refl (F : Nat → Prop) (w : World) : Turn F F w w := ⟨rfl, rfl, rfl, Nat.le_refl _, fun _ _ _ => rfl, fun _ h => .inl h⟩
theorem Turn.trans {F F' F'' : Nat → Prop} {a b c : World} (h : Turn F F' a b) (k : Turn F' F'' b c) : Turn F F'' a c :=
  ⟨k.os.trans h.os, k.tape.trans h.tape, k.output.trans h.output, Nat.le_trans h.size k.size,
   fun i hi hn => (k.block i (Nat.lt_of_lt_of_le hi h.size) fun hf => (h.new i hf).elim hn (by omega)).trans (h.block i hi hn),
   fun i hi => (k.new i hi).elim (fun h1 => h.new i h1) fun h1 => .inr (Nat.le_trans h.size h1)⟩
theorem Turn.drewN {F F' : Nat → Prop} {a b : World} (h : Turn F F' a b) (n : Nat) : Turn F F' a (b.drewN n) := ⟨h.os, h.tape, h.output, h.size, h.block, h.new⟩
theorem Turn.drew {F F' : Nat → Prop} {a b : World} (h : Turn F F' a b) : Turn F F' a b.drew := ⟨h.os, h.tape, h.output, h.size, h.block, h.new⟩
/-- nothing old has turned. -/
theorem Turn.of_below {F : Nat → Prop} {w w' : World} (h : Below w.heap.size w w') : Turn F F w w' := ⟨h.os, h.tape, h.output, h.size, fun k hk _ => h.block k hk, fun _ h => .inl h⟩
theorem Turn.of_grown {F F' : Nat → Prop} {w w' : World} {r : Option Nat} (h : w.grownBy w' r) (hr : ∀ k, r = some k → F k) (hn : ∀ k, F' k → F k ∨ w.heap.size ≤ k) : Turn F F' w w' :=
  ⟨h.os, h.tape, h.output, h.size, fun k hk hf => h.block k hk fun e => hf (hr k e.symm), hn⟩
theorem Turn.set {F F' : Nat → Prop} {a w : World} (h : Turn F F' a w) {g : Nat} (hg : F g) (o : Nat) (u : Value) : Turn F F' a (w.setCell ⟨g, o, none⟩ u) :=
  ⟨h.os, h.tape, h.output, by simpa [World.setCell] using h.size, fun k hk hf => (Below.heap_setCell w ⟨g, o, none⟩ u k (fun e => hf (by rw [e]; exact hg))).trans (h.block k hk hf), h.new⟩
theorem Turn.alloc {F F' : Nat → Prop} {a w : World} (h : Turn F F' a w) (o : Obj) : Turn F F' a (w.alloc o) :=
  ⟨h.os, h.tape, h.output, by have := h.size; have h2 := ((Below.refl w.heap.size w).alloc (Nat.le_refl _) o).size; omega, fun k hk hf => (Below.heap_alloc w o k (Nat.lt_of_lt_of_le hk h.size)).trans (h.block k hk hf), h.new⟩
theorem Turn.more {F F' F'' : Nat → Prop} {a w : World} (h : Turn F F' a w) (hn : ∀ k, F'' k → F k ∨ a.heap.size ≤ k) : Turn F F'' a w := ⟨h.os, h.tape, h.output, h.size, h.block, hn⟩
/-- what turns is not below B. -/
theorem Turn.below {F F' : Nat → Prop} {B : Nat} {a w w' : World} (h : Turn F F' w w') (hb : Below B a w) (hf : Foot F B w) (hB : B ≤ w.heap.size) : Below B a w' :=
  ⟨h.os.trans hb.os, h.tape.trans hb.tape, h.output.trans hb.output, Nat.le_trans hb.size h.size,
   fun k hk => (h.block k (by omega) fun hk' => by have := (hf k hk').1; omega).trans (hb.block k hk)⟩
theorem Turn.off {F F' G : Nat → Prop} {B : Nat} {w w' : World} (h : Turn F F' w w') (ho : Off F G) (hg : Foot G B w) : Off F' G := fun k hk hk' => (h.new k hk).elim (fun h1 => ho k h1 hk') (by have := (hg k hk').2; omega)
theorem Turn.kept {F F' G : Nat → Prop} {B : Nat} {w w' : World} (h : Turn F F' w w') (ho : Off F G) (hg : Foot G B w) : ∀ k, G k → w'.heap[k]? = w.heap[k]? := fun k hk => h.block k (hg k hk).2 fun hf => ho k hf hk
theorem Off.symm {F G : Nat → Prop} (h : Off F G) : Off G F := fun k a b => h k b a
theorem below_kept {G : Nat → Prop} {B : Nat} {w w' : World} (h : Below w.heap.size w w') (hg : Foot G B w) : ∀ k, G k → w'.heap[k]? = w.heap[k]? := fun k hk => h.block k (hg k hk).2
theorem Foot.on {F : Nat → Prop} {B : Nat} {w w' : World} (h : Foot F B w) (hs : w.heap.size ≤ w'.heap.size) : Foot F B w' := fun k hk => ⟨(h k hk).1, Nat.lt_of_lt_of_le (h k hk).2 hs⟩
theorem Foot.down {F : Nat → Prop} {B B' : Nat} {w : World} (h : Foot F B w) (hb : B' ≤ B) : Foot F B' w := fun k hk => ⟨Nat.le_trans hb (h k hk).1, (h k hk).2⟩
theorem Off.new {F G : Nat → Prop} {B B' : Nat} {w w' : World} (h : Foot F B w) (h' : Foot G B' w') (hb : w.heap.size ≤ B') : Off F G := fun k a b => by have := (h k a).2; have := (h' k b).1; omega

/-! ### rows, where only the row's own block counts -/
theorem own_keep {w w' : World} {base e size n : Nat} {v : Value} {xs : List Value} (h : w.ownsRow base e size v n xs) (hk : ∀ k, v.ownBlock = some k → w'.heap[k]? = w.heap[k]?) : w'.ownsRow base e size v n xs := by
  obtain ⟨h1, h2⟩ := h
  refine ⟨h1, ?_⟩
  rcases h2 with h2 | ⟨g, cap, cur, hv, hg, hh, r⟩
  · exact Or.inl h2
  · exact Or.inr ⟨g, cap, cur, hv, hg, (hk g (by rw [hv]; rfl)).trans hh, r⟩
theorem own_block_lt {w : World} {base e n : Nat} {v : Value} {xs : List Value} (h : w.ownsRow base e 1 v n xs) {k : Nat} (hk : v.ownBlock = some k) : base ≤ k ∧ k < w.heap.size := h.lt k hk
theorem rd_keep {B : Nat} {w w' : World} {A : Option Addr} {xs : List Value} (h : Rd B w A xs) (hk : ∀ b o s, A = some ⟨b, o, s⟩ → w'.heap[b]? = w.heap[b]?) : Rd B w' A xs := fun hn => by
  obtain ⟨b, o, hA, hb, hc⟩ := h hn
  refine ⟨b, o, hA, hb, fun j u hu => ?_⟩
  have := hc j u hu
  rw [← this]
  exact World.cell?_of_block (hk b o none hA)
theorem Blk.kept {w w' : World} {g : Nat} {t : TypeId} {cs : List Value} (h : Blk w g t cs) (hk : w'.heap[g]? = w.heap[g]?) : Blk w' g t cs := hk.trans h
/-- a literal slice without elements. -/
theorem own_zero (w : World) (t : TypeId) : (w.alloc (.cells #[] t)).ownsRow w.heap.size t 1 (.slice (some ⟨w.heap.size, 0, none⟩) 0 0) 0 [] :=
  ⟨rfl, .inr ⟨w.heap.size, 0, #[], rfl, Nat.le_refl _, heap_alloc_new w _, Nat.le_refl _, by unfold maxLen; omega, rfl, rfl⟩⟩
end Go.Proofs.Ytnbhgeodbpelgaa
