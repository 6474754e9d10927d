/- The plain law of layer 10, of many bytes: packing and unpacking. No conditions. -/
import Derived.Test.YtnoefbmdpbljhaaP10
namespace Go.Proofs.Ytnoefbmdpbljhaa.Hm
def two (c : Nat) : List Nat := [word (c / 16), word (c % 16)]
def rtwo (c : Nat) : List Nat := [rword (c / 16), rword (c % 16)]
def pack (l : List Nat) : List Nat := l.flatMap two
theorem two_eq (c : Nat) (h : c < 256) : two c = rtwo c := by
  have h1 : word (c / 16) = rword (c / 16) := words ⟨c / 16, by omega⟩
  have h2 : word (c % 16) = rword (c % 16) := words ⟨c % 16, by omega⟩
  simp [two, rtwo, h1, h2]
theorem pack_length (l : List Nat) : (pack l).length = 2 * l.length := by
  induction l with
  | nil => rfl
  | cons c l ih => simp only [pack, List.flatMap_cons, List.length_append, List.length_cons] at ih ⊢; rw [ih]; simp [two]; omega
theorem pack_take (l : List Nat) {k c : Nat} (h : l[k]? = some c) : pack (l.take (k + 1)) = pack (l.take k) ++ two c := by
  rw [List.take_add_one, h]
  simp [pack]
/-! ### unpacking -/
def okW (w : List Nat) (k : Nat) : Prop := ∀ j x, j < k → w[j]? = some x → (half x).2.2 = 0
def hb (w : List Nat) (j : Nat) : Nat := (half (w.getD j 0)).1
def cnt (w : List Nat) : Nat → Nat
  | 0 => 0
  | k + 1 => cnt w k + (half (w.getD k 0)).2.1
/-- the byte at place j behind k of the words. -/
def byteAt (w : List Nat) (k j : Nat) : Nat := if 2 * j + 1 < k then 16 * hb w (2 * j) + hb w (2 * j + 1) else if 2 * j < k then hb w (2 * j) else 0
def bytes (w : List Nat) (k : Nat) : List Nat := (List.range (w.length / 2)).map (byteAt w k)
/-- the document's bytes behind k pairs. -/
def rbytes (w : List Nat) (k : Nat) : List Nat := (List.range k).map fun j => 16 * hb w (2 * j) + hb w (2 * j + 1)
theorem bytes_length (w : List Nat) (k : Nat) : (bytes w k).length = w.length / 2 := by simp [bytes]
theorem bytes_zero (w : List Nat) : bytes w 0 = List.replicate (w.length / 2) 0 := by
  apply List.ext_getElem?
  intro j
  simp only [bytes, List.getElem?_map, List.getElem?_replicate]
  by_cases h : j < w.length / 2
  · rw [List.getElem?_range h, if_pos h]; simp [byteAt]
  · rw [List.getElem?_eq_none (by simpa using h), if_neg h]; rfl
theorem bytes_all (w : List Nat) (he : w.length % 2 = 0) : bytes w w.length = rbytes w (w.length / 2) := by
  apply List.map_congr_left
  intro j hj
  have : j < w.length / 2 := by simpa using hj
  unfold byteAt
  rw [if_pos (by omega)]
theorem rbytes_succ (w : List Nat) (k : Nat) : rbytes w (k + 1) = rbytes w k ++ [16 * hb w (2 * k) + hb w (2 * k + 1)] := by simp [rbytes, List.range_succ]
theorem bytes_at (w : List Nat) (k j : Nat) (h : j < w.length / 2) : (bytes w k)[j]? = some (byteAt w k j) := by simp [bytes, h]
theorem bytes_next (w : List Nat) (k : Nat) : (bytes w k).set (k / 2) (byteAt w (k + 1) (k / 2)) = bytes w (k + 1) := by
  apply List.ext_getElem?
  intro j
  by_cases h : j < w.length / 2
  · rw [bytes_at w (k + 1) j h]
    by_cases hj : k / 2 = j
    · subst hj
      rw [List.getElem?_set_self (by rw [bytes_length]; exact h)]
    · rw [List.getElem?_set_ne hj, bytes_at w k j h]
      congr 1
      unfold byteAt
      repeat' split
      all_goals first | rfl | (exfalso; omega)
  · rw [List.getElem?_eq_none (by rw [List.length_set, bytes_length]; omega), List.getElem?_eq_none (by rw [bytes_length]; omega)]
set_option maxRecDepth 100000
theorem or16 : ∀ a : Fin 16, ∀ b : Fin 16, (a.val * 16 % 256) ||| b.val = 16 * a.val + b.val := by decide +kernel
theorem hb_lt (w : List Nat) (hw : ∀ x ∈ w, x < 256) (j : Nat) : hb w j < 16 := by
  unfold hb
  by_cases h : j < w.length
  · have hx : w.getD j 0 ∈ w := by rw [List.getD_eq_getElem?_getD, List.getElem?_eq_getElem h]; exact List.getElem_mem h
    exact (half_ok ⟨_, hw _ hx⟩).1
  · have : w.getD j 0 = 0 := by rw [List.getD_eq_getElem?_getD, List.getElem?_eq_none (by omega)]; rfl
    rw [this]; exact (half_ok 0).1
theorem byte_next (w : List Nat) (hw : ∀ x ∈ w, x < 256) (k : Nat) : (byteAt w k (k / 2) * 16 % 256) ||| hb w k = byteAt w (k + 1) (k / 2) := by
  unfold byteAt
  rcases Nat.mod_two_eq_zero_or_one k with h | h
  · have e : 2 * (k / 2) = k := by omega
    rw [e, if_neg (by omega), if_neg (by omega), if_neg (by omega), if_pos (by omega)]
    simp
  · have e : 2 * (k / 2) + 1 = k := by omega
    rw [e, if_neg (by omega), if_pos (by omega), if_pos (by omega)]
    exact or16 ⟨hb w (2 * (k / 2)), hb_lt w hw _⟩ ⟨hb w k, hb_lt w hw _⟩
theorem byteAt_lt (w : List Nat) (hw : ∀ x ∈ w, x < 256) (k j : Nat) : byteAt w k j < 256 := by
  have h1 := hb_lt w hw (2 * j)
  have h2 := hb_lt w hw (2 * j + 1)
  unfold byteAt
  split
  · omega
  · split <;> omega
theorem cnt_le (w : List Nat) (hw : ∀ x ∈ w, x < 256) (k : Nat) (hk : k ≤ w.length) : cnt w k ≤ k := by
  induction k with
  | zero => exact Nat.le_refl _
  | succ k ih =>
    have hx : w.getD k 0 ∈ w := by rw [List.getD_eq_getElem?_getD, List.getElem?_eq_getElem (by omega)]; exact List.getElem_mem _
    have := (half_ok ⟨_, hw _ hx⟩).2.1
    have := ih (by omega)
    simp only [cnt]
    simp only at *
    omega
end Go.Proofs.Ytnoefbmdpbljhaa.Hm
