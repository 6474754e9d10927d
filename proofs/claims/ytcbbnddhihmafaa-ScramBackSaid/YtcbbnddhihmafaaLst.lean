/- Words for slices of byte slices. No conditions. -/
import Derived.Test.YtcbbnddhihmafaaBlk
namespace Go.Proofs.Ytcbbnddhihmafaa
open Go.RowKit
set_option linter.unusedVariables false

/-- The value v is a slice of bytes with the list l (memory below B). -/
def Sl (B : Nat) (w : World) (v : Value) (l : List Nat) : Prop := ∃ A c, v = .slice A l.length c ∧ Rd B w A (u8s l)
/-- The slice at A holds slices of bytes with these lists. -/
def RdL (B : Nat) (w : World) (A : Option Addr) (ls : List (List Nat)) : Prop := ∃ vs : List Value, vs.length = ls.length ∧ Rd B w A vs ∧ ∀ (i : Nat) (v : Value) (l : List Nat), vs[i]? = some v → ls[i]? = some l → Sl B w v l
section
variable {B B' : Nat} {w w' : World} {A : Option Addr} {ls : List (List Nat)} {v : Value} {l : List Nat}
theorem Sl.keep (h : Sl B w v l) (hB : B ≤ B') (hk : ∀ p : Addr, p.block < B → w'.cell? p = w.cell? p) : Sl B' w' v l := by
  obtain ⟨a, c, hv, hr⟩ := h
  exact ⟨a, c, hv, hr.keep hB hk⟩
theorem RdL.keep (h : RdL B w A ls) (hB : B ≤ B') (hk : ∀ p : Addr, p.block < B → w'.cell? p = w.cell? p) : RdL B' w' A ls := by
  obtain ⟨vs, h1, h2, h3⟩ := h
  exact ⟨vs, h1, h2.keep hB hk, fun i v l hv hl => (h3 i v l hv hl).keep hB hk⟩
theorem RdL.on (h : RdL w.heap.size w A ls) (hb : Below w.heap.size w w') : RdL w'.heap.size w' A ls := h.keep hb.size fun p hp => hb.cell hp
theorem RdL.below {K : Nat} (h : RdL B w A ls) (hb : Below K w w') (hK : B ≤ K) : RdL B w' A ls := h.keep (Nat.le_refl _) fun p hp => hb.cell (by omega)
theorem RdL.nil (B : Nat) (w : World) (A : Option Addr) : RdL B w A [] := ⟨[], rfl, Rd.nil _ _ _, fun i v l hv => by simp at hv⟩
/-- element i: the cell, and the slice that it holds. -/
theorem RdL.at_ (h : RdL B w A ls) {i : Nat} (hi : ls[i]? = some l) : ∃ b o a c, A = some ⟨b, o, none⟩ ∧ b < B ∧ w.cell? ⟨b, o + i, none⟩ = some (.slice a l.length c) ∧ Rd B w a (u8s l) := by
  obtain ⟨vs, h1, h2, h3⟩ := h
  have hlt : i < vs.length := by have := (List.getElem?_eq_some_iff.1 hi).1; omega
  have hv := List.getElem?_eq_getElem hlt
  obtain ⟨a, c, he, hr⟩ := h3 i _ l hv hi
  obtain ⟨b, o, hA, hb, hc⟩ := h2.at_ hv
  exact ⟨b, o, a, c, hA, hb, by rw [← he]; exact hc, hr⟩
end
theorem flat_take (ls : List (List Nat)) {k : Nat} {l : List Nat} (h : ls[k]? = some l) : (ls.take (k + 1)).flatten = (ls.take k).flatten ++ l := by
  rw [List.take_add_one, h]; simp
theorem flat_le (ls : List (List Nat)) (k : Nat) : (ls.take k).flatten.length ≤ ls.flatten.length := by
  have h : ls.flatten = (ls.take k).flatten ++ (ls.drop k).flatten := by rw [← List.flatten_append, List.take_append_drop]
  rw [h, List.length_append]; omega
end Go.Proofs.Ytcbbnddhihmafaa
