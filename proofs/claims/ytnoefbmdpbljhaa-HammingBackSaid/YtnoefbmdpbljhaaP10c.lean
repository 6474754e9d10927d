/- The plain law of layer 10, of what was packed and had one bit of some words turned. No conditions. -/
import Derived.Test.YtnoefbmdpbljhaaP10b
namespace Go.Proofs.Ytnoefbmdpbljhaa.Hm
/-- the half at place j. -/
def nib (l : List Nat) (j : Nat) : Nat := if j % 2 = 0 then l.getD (j / 2) 0 / 16 else l.getD (j / 2) 0 % 16
theorem pack_at (l : List Nat) : ∀ j, j < 2 * l.length → (pack l)[j]? = some (word (nib l j)) := by
  induction l with
  | nil => intro j h; simp at h
  | cons c l ih =>
    intro j h
    have e : pack (c :: l) = word (c / 16) :: word (c % 16) :: pack l := rfl
    rw [e]
    rcases j with _ | _ | j
    · rfl
    · rfl
    · rw [List.getElem?_cons_succ, List.getElem?_cons_succ, ih j (by simp at h; omega)]
      unfold nib
      rw [show (j + 1 + 1) % 2 = j % 2 by omega, show (j + 1 + 1) / 2 = j / 2 + 1 by omega]
      rfl
theorem nib_lt (l : List Nat) (hl : ∀ x ∈ l, x < 256) (j : Nat) : nib l j < 16 := by
  have h : l.getD (j / 2) 0 < 256 := by
    by_cases h : j / 2 < l.length
    · have hx : l.getD (j / 2) 0 ∈ l := by rw [List.getD_eq_getElem?_getD, List.getElem?_eq_getElem h]; exact List.getElem_mem h
      exact hl _ hx
    · rw [List.getD_eq_getElem?_getD, List.getElem?_eq_none (by omega)]; decide
  unfold nib
  split <;> omega
/-! ### turned -/
def fl (T : List Int) (j : Nat) : Nat := match T[j]? with | some t => if 0 ≤ t ∧ t < 8 then 1 else 0 | none => 0
def one (W : List Nat) (T : List Int) (j : Nat) : Nat := match T[j]? with | some t => if 0 ≤ t ∧ t < 8 then W.getD j 0 ^^^ 2 ^ t.toNat else W.getD j 0 | none => W.getD j 0
def tw (W : List Nat) (T : List Int) (k : Nat) : List Nat := (List.range W.length).map fun j => if j < k then one W T j else W.getD j 0
def tc (T : List Int) : Nat → Nat
  | 0 => 0
  | k + 1 => tc T k + fl T k
theorem tw_length (W : List Nat) (T : List Int) (k : Nat) : (tw W T k).length = W.length := by simp [tw]
theorem tw_get (W : List Nat) (T : List Int) (k j : Nat) (h : j < W.length) : (tw W T k)[j]? = some (if j < k then one W T j else W.getD j 0) := by simp [tw, h]
theorem tw_zero (W : List Nat) (T : List Int) : tw W T 0 = W := by
  apply List.ext_getElem?
  intro j
  by_cases h : j < W.length
  · rw [tw_get W T 0 j h, if_neg (by omega), List.getD_eq_getElem?_getD, List.getElem?_eq_getElem h]; rfl
  · rw [List.getElem?_eq_none (by rw [tw_length]; omega), List.getElem?_eq_none (by omega)]
theorem tw_at (W : List Nat) (T : List Int) (k : Nat) (h : k < W.length) : (tw W T k)[k]? = some (W.getD k 0) := by rw [tw_get W T k k h, if_neg (by omega)]
theorem tw_set (W : List Nat) (T : List Int) (k : Nat) : (tw W T k).set k (one W T k) = tw W T (k + 1) := by
  apply List.ext_getElem?
  intro j
  by_cases hj : j < W.length
  · rw [tw_get W T (k + 1) j hj]
    by_cases e : k = j
    · subst e
      rw [List.getElem?_set_self (by rw [tw_length]; exact hj), if_pos (by omega)]
    · rw [List.getElem?_set_ne e, tw_get W T k j hj]
      by_cases hk : j < k
      · rw [if_pos hk, if_pos (by omega)]
      · rw [if_neg hk, if_neg (by omega)]
  · rw [List.getElem?_eq_none (by rw [List.length_set, tw_length]; omega), List.getElem?_eq_none (by rw [tw_length]; omega)]
theorem tw_skip (W : List Nat) (T : List Int) (k : Nat) (h : k < W.length) (ho : one W T k = W.getD k 0) : tw W T (k + 1) = tw W T k := by
  rw [← tw_set W T k, ho]
  apply List.ext_getElem?
  intro j
  by_cases e : k = j
  · subst e
    rw [List.getElem?_set_self (by rw [tw_length]; exact h), tw_at W T k h]
  · rw [List.getElem?_set_ne e]
theorem one_in {W : List Nat} {T : List Int} {k : Nat} {t : Nat} (h : T[k]? = some (t : Int)) (ht : t < 8) : one W T k = W.getD k 0 ^^^ 2 ^ t := by
  unfold one; rw [h]; show (if _ then _ else _) = _; rw [if_pos (by omega)]; rfl
theorem one_out {W : List Nat} {T : List Int} {k : Nat} {t : Int} (h : T[k]? = some t) (ht : t < 0 ∨ 8 ≤ t) : one W T k = W.getD k 0 := by
  unfold one; rw [h]; show (if _ then _ else _) = _; rw [if_neg (by omega)]
theorem fl_in {T : List Int} {k : Nat} {t : Nat} (h : T[k]? = some (t : Int)) (ht : t < 8) : fl T k = 1 := by
  unfold fl; rw [h]; show (if _ then _ else _) = _; rw [if_pos (by omega)]
theorem fl_out {T : List Int} {k : Nat} {t : Int} (h : T[k]? = some t) (ht : t < 0 ∨ 8 ≤ t) : fl T k = 0 := by
  unfold fl; rw [h]; show (if _ then _ else _) = _; rw [if_neg (by omega)]
theorem fl_none {T : List Int} {k : Nat} (h : T.length ≤ k) : fl T k = 0 := by unfold fl; rw [List.getElem?_eq_none h]
theorem tc_le (T : List Int) (k : Nat) : tc T k ≤ k := by
  induction k with
  | zero => exact Nat.le_refl _
  | succ k ih =>
    have : fl T k ≤ 1 := by
      unfold fl
      split
      · split <;> omega
      · omega
    show tc T k + fl T k ≤ _; omega
theorem tc_far (T : List Int) (k d : Nat) (h : T.length ≤ k) : tc T (k + d) = tc T k := by
  induction d with
  | zero => rfl
  | succ d ih => show tc T (k + d) + fl T (k + d) = _; rw [fl_none (by omega), ih]; rfl
/-- every word of what was packed and turned is its half, mended where it was turned. -/
theorem tw_half (l : List Nat) (hl : ∀ x ∈ l, x < 256) (T : List Int) (k j : Nat) (hj : j < 2 * l.length) (hk : j < k ∨ T.length ≤ j) :
    ∃ x, (tw (pack l) T k)[j]? = some x ∧ half x = (nib l j, fl T j, 0) := by
  have hlen : j < (pack l).length := by rw [pack_length]; exact hj
  have hw : (pack l).getD j 0 = word (nib l j) := by rw [List.getD_eq_getElem?_getD, pack_at l j hj]; rfl
  refine ⟨_, tw_get _ _ _ _ hlen, ?_⟩
  rw [hw]
  by_cases ht : j < T.length
  · have hk' : j < k := by omega
    rw [if_pos hk']
    obtain ⟨t, hT⟩ : ∃ t, T[j]? = some t := ⟨_, List.getElem?_eq_getElem ht⟩
    by_cases h8 : t < 0 ∨ 8 ≤ t
    · rw [one_out hT h8, fl_out hT h8, hw]
      exact half_word ⟨nib l j, nib_lt l hl j⟩
    · obtain ⟨t, rfl⟩ := Int.eq_ofNat_of_zero_le (show 0 ≤ t by omega)
      have ht8 : t < 8 := by omega
      rw [one_in hT ht8, fl_in hT ht8, hw]
      exact half_one ⟨nib l j, nib_lt l hl j⟩ ⟨t, ht8⟩
  · rw [fl_none (by omega)]
    have : (if j < k then one (pack l) T j else word (nib l j)) = word (nib l j) := by
      split
      · unfold one; rw [List.getElem?_eq_none (by omega)]; exact hw
      · rfl
    rw [this]
    exact half_word ⟨nib l j, nib_lt l hl j⟩
section
variable (l : List Nat) (hl : ∀ x ∈ l, x < 256) (T : List Int) (k : Nat) (hk : k = 2 * l.length ∨ (k < 2 * l.length ∧ T.length ≤ k))
include hl hk
theorem tw_okW : okW (tw (pack l) T k) (2 * l.length) := by
  intro j x hj hx
  obtain ⟨y, hy, hh⟩ := tw_half l hl T k j hj (by omega)
  have : x = y := Option.some.inj (hx.symm.trans hy)
  rw [this, hh]
theorem tw_hb (j : Nat) (hj : j < 2 * l.length) : hb (tw (pack l) T k) j = nib l j := by
  obtain ⟨y, hy, hh⟩ := tw_half l hl T k j hj (by omega)
  unfold hb
  rw [List.getD_eq_getElem?_getD, hy]
  show (half y).1 = _
  rw [hh]
theorem tw_cnt (m : Nat) (hm : m ≤ 2 * l.length) : cnt (tw (pack l) T k) m = tc T m := by
  induction m with
  | zero => rfl
  | succ m ih =>
    obtain ⟨y, hy, hh⟩ := tw_half l hl T k m (by omega) (by omega)
    show cnt _ m + (half ((tw (pack l) T k).getD m 0)).2.1 = tc T m + fl T m
    rw [ih (by omega), List.getD_eq_getElem?_getD, hy]
    show tc T m + (half y).2.1 = _
    rw [hh]
theorem tw_all : cnt (tw (pack l) T k) (2 * l.length) = tc T k := by
  rw [tw_cnt l hl T k hk _ (Nat.le_refl _)]
  rcases hk with h | ⟨h, h2⟩
  · rw [h]
  · rw [show 2 * l.length = k + (2 * l.length - k) by omega, tc_far T k _ h2]
theorem tw_bytes : rbytes (tw (pack l) T k) l.length = l := by
  apply List.ext_getElem?
  intro i
  by_cases h : i < l.length
  · simp only [rbytes, List.getElem?_map, List.getElem?_range h, Option.map_some]
    rw [tw_hb l hl T k hk _ (by omega), tw_hb l hl T k hk _ (by omega)]
    unfold nib
    rw [if_pos (by omega), if_neg (by omega), show (2 * i + 1) / 2 = i by omega, show 2 * i / 2 = i by omega, List.getD_eq_getElem?_getD, List.getElem?_eq_getElem h]
    simp only [Option.getD_some]
    congr 1
    omega
  · rw [List.getElem?_eq_none (by simp [rbytes]; omega), List.getElem?_eq_none (by omega)]
end
end Go.Proofs.Ytnoefbmdpbljhaa.Hm
