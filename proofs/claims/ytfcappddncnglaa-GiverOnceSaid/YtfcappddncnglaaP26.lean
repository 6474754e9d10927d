/- The plain law of layer 26: where a number stands again first; what is drawn. No conditions. -/
namespace Go.Proofs.Ytfcappddncnglaa.No
/-- i is the first place at which a number stands again; it stood at k. -/
def IsFirst (l : List Nat) (k i : Nat) : Prop := k < i ∧ i < l.length ∧ l[k]? = l[i]? ∧ (l.take i).Nodup
theorem take_eq {l : List Nat} {a b i : Nat} (hn : (l.take i).Nodup) (ha : a < i) (hb : b < i) (hi : i ≤ l.length) (h : l[a]? = l[b]?) : a = b := by
  have h1 : (l.take i)[a]? = (l.take i)[b]? := by rw [List.getElem?_take, List.getElem?_take, if_pos ha, if_pos hb, h]
  exact (List.getElem?_inj (by rw [List.length_take]; omega) hn).1 h1
theorem first_one {l : List Nat} {k i k' i' : Nat} (h : IsFirst l k i) (h' : IsFirst l k' i') : k = k' ∧ i = i' := by
  obtain ⟨a1, a2, a3, a4⟩ := h
  obtain ⟨b1, b2, b3, b4⟩ := h'
  have hi : i = i' := by
    rcases Nat.lt_trichotomy i i' with h | h | h
    · have := take_eq b4 (show k < i' by omega) (show i < i' by omega) (by omega) a3; omega
    · exact h
    · have := take_eq a4 (show k' < i by omega) (show i' < i by omega) (by omega) b3; omega
  subst hi
  exact ⟨take_eq a4 a1 b1 (by omega) (a3.trans b3.symm), rfl⟩
theorem first_not {l : List Nat} {k i : Nat} (h : IsFirst l k i) (hn : l.Nodup) : False := by
  obtain ⟨a1, a2, a3, _⟩ := h
  have := (List.getElem?_inj (show k < l.length by omega) hn).1 a3
  omega
theorem nodup_next {l : List Nat} {i x : Nat} (hn : (l.take i).Nodup) (hx : l[i]? = some x) (hm : x ∉ l.take i) : (l.take (i + 1)).Nodup := by
  rw [List.take_add_one, hx]
  rw [List.nodup_append]
  refine ⟨hn, by simp, ?_⟩
  intro a ha b hb
  simp at hb
  subst hb
  rintro rfl
  exact hm ha
theorem mem_take {l : List Nat} {i x : Nat} (h : x ∈ l.take i) : ∃ k, k < i ∧ l[k]? = some x := by
  obtain ⟨k, hk⟩ := List.getElem?_of_mem h
  rw [List.getElem?_take] at hk
  split at hk
  · exact ⟨k, by assumption, hk⟩
  · cases hk
theorem take_mem {l : List Nat} {i k x : Nat} (hk : k < i) (h : l[k]? = some x) : x ∈ l.take i := by
  apply List.mem_of_getElem? (i := k)
  rw [List.getElem?_take, if_pos hk, h]
/-- what is drawn as the i'th. -/
def nextN (l : List Nat) (i : Nat) : Nat := if h : i < l.length then l[i] else 9223372036854775808 + (i - l.length)
def usedN (l : List Nat) (n : Nat) : List Nat := (List.range n).map (nextN l)
theorem usedN_length (l : List Nat) (n : Nat) : (usedN l n).length = n := by simp [usedN]
theorem usedN_succ (l : List Nat) (n : Nat) : usedN l (n + 1) = usedN l n ++ [nextN l n] := by simp [usedN, List.range_succ]
end Go.Proofs.Ytfcappddncnglaa.No
