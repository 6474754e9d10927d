/- The plain law of layer 11: in which order bits are read, column by column; what is woven and unwoven. No conditions. -/
namespace Go.Proofs.Ytcbbnddhihmafaa.We
/-- how many columns there are. -/
def cols (n rows : Nat) : Nat := (n + rows - 1) / rows
/-- one column: the places r * cols + c below n, for r from 0 on. -/
def col (n cs c rows : Nat) : List Nat := (List.range rows).filterMap fun r => if r * cs + c < n then some (r * cs + c) else none
/-- the first so many columns. -/
def ordTo (n cs rows k : Nat) : List Nat := (List.range k).flatMap fun c => col n cs c rows
def ord (n rows : Nat) : List Nat := ordTo n (cols n rows) rows (cols n rows)
theorem ordTo_succ (n cs rows k : Nat) : ordTo n cs rows (k + 1) = ordTo n cs rows k ++ col n cs k rows := by
  simp [ordTo, List.range_succ]
theorem col_succ (n cs c r : Nat) : col n cs c (r + 1) = col n cs c r ++ (if r * cs + c < n then [r * cs + c] else []) := by
  simp only [col, List.range_succ, List.filterMap_append]
  by_cases h : r * cs + c < n <;> simp [h]
theorem cols_ge (n rows : Nat) (h : 0 < rows) : n ≤ cols n rows * rows := by
  unfold cols
  have := Nat.div_add_mod (n + rows - 1) rows
  have h2 := Nat.mod_lt (n + rows - 1) h
  rw [Nat.mul_comm] at this
  omega
theorem cols_least (n rows k : Nat) (h : 0 < rows) (hk : n ≤ k * rows) : cols n rows ≤ k := by
  unfold cols
  rw [Nat.div_le_iff_le_mul_add_pred h, Nat.mul_comm]
  omega
theorem mem_col {n cs c rows p : Nat} : p ∈ col n cs c rows ↔ ∃ r, r < rows ∧ p = r * cs + c ∧ p < n := by
  simp only [col, List.mem_filterMap, List.mem_range]
  constructor
  · rintro ⟨r, hr, h⟩
    split at h
    · cases h; exact ⟨r, hr, rfl, by assumption⟩
    · cases h
  · rintro ⟨r, hr, rfl, h⟩
    exact ⟨r, hr, by simp [h]⟩
theorem mem_ordTo {n cs rows k p : Nat} : p ∈ ordTo n cs rows k ↔ ∃ c r, c < k ∧ r < rows ∧ p = r * cs + c ∧ p < n := by
  simp only [ordTo, List.mem_flatMap, List.mem_range, mem_col]
  constructor
  · rintro ⟨c, hc, r, hr, h1, h2⟩; exact ⟨c, r, hc, hr, h1, h2⟩
  · rintro ⟨c, r, hc, hr, h1, h2⟩; exact ⟨c, hc, r, hr, h1, h2⟩
theorem mem_ord {n rows p : Nat} (h : 0 < rows) : p ∈ ord n rows ↔ p < n := by
  unfold ord
  rw [mem_ordTo]
  constructor
  · rintro ⟨_, _, _, _, _, h⟩; exact h
  · intro hp
    have hg := cols_ge n rows h
    have hc : 0 < cols n rows := by
      rcases Nat.eq_zero_or_pos (cols n rows) with e | e
      · rw [e] at hg; omega
      · exact e
    refine ⟨p % cols n rows, p / cols n rows, Nat.mod_lt _ hc, ?_, ?_, hp⟩
    · rw [Nat.div_lt_iff_lt_mul hc]
      rw [Nat.mul_comm] at hg; omega
    · have := Nat.div_add_mod p (cols n rows)
      rw [Nat.mul_comm]; omega
theorem nodup_col (n cs c rows : Nat) (h : 0 < cs) : (col n cs c rows).Nodup := by
  induction rows with
  | zero => simp [col]
  | succ r ih =>
    rw [col_succ]
    rw [List.nodup_append]
    refine ⟨ih, ?_, ?_⟩
    · split <;> simp
    · intro a ha b hb
      split at hb
      · simp at hb
        subst hb
        rw [mem_col] at ha
        obtain ⟨r', hr', rfl, _⟩ := ha
        have := Nat.mul_lt_mul_of_pos_right hr' h
        omega
      · simp at hb
theorem nodup_ordTo (n cs rows k : Nat) (hk : k ≤ cs) : (ordTo n cs rows k).Nodup := by
  induction k with
  | zero => simp [ordTo]
  | succ k ih =>
    rw [ordTo_succ, List.nodup_append]
    refine ⟨ih (by omega), nodup_col _ _ _ _ (by omega), ?_⟩
    intro a ha b hb hab
    subst hab
    rw [mem_ordTo] at ha
    rw [mem_col] at hb
    obtain ⟨c, r, hc, hr, e1, _⟩ := ha
    obtain ⟨r', hr', e2, _⟩ := hb
    have h1 : a % cs = c := by rw [e1, Nat.mul_comm, Nat.mul_add_mod]; exact Nat.mod_eq_of_lt (by omega)
    have h2 : a % cs = k := by rw [e2, Nat.mul_comm, Nat.mul_add_mod]; exact Nat.mod_eq_of_lt (by omega)
    omega
theorem nodup_ord (n rows : Nat) : (ord n rows).Nodup := nodup_ordTo _ _ _ _ (Nat.le_refl _)
theorem perm_ord (n rows : Nat) (h : 0 < rows) : (ord n rows).Perm (List.range n) := by
  rw [List.perm_ext_iff_of_nodup (nodup_ord n rows) List.nodup_range]
  intro a
  rw [mem_ord h, List.mem_range]
theorem length_ord (n rows : Nat) (h : 0 < rows) : (ord n rows).length = n := by
  rw [(perm_ord n rows h).length_eq, List.length_range]
/-! ### full columns -/
theorem cols_full (cs rows : Nat) (h : 0 < rows) : cols (cs * rows) rows = cs := by
  unfold cols
  rw [Nat.add_sub_assoc (by omega), Nat.mul_comm, Nat.mul_add_div h]
  rw [Nat.div_eq_of_lt (by omega)]; omega
theorem col_full (cs rows c m : Nat) (hc : c < cs) (hm : m ≤ rows) : col (cs * rows) cs c m = (List.range m).map fun r => r * cs + c := by
  induction m with
  | zero => simp [col]
  | succ m ih =>
    rw [col_succ, ih (by omega), List.range_succ, List.map_append]
    have h1 : (m + 1) * cs ≤ rows * cs := Nat.mul_le_mul_right _ hm
    have h2 : (m + 1) * cs = m * cs + cs := Nat.succ_mul m cs
    have h3 : rows * cs = cs * rows := Nat.mul_comm _ _
    rw [if_pos (by omega)]; rfl
theorem ordTo_full (cs rows k : Nat) (hr : 0 < rows) (hk : k ≤ cs) : ordTo (cs * rows) cs rows k = (List.range (k * rows)).map fun i => (i % rows) * cs + i / rows := by
  induction k with
  | zero => simp [ordTo]
  | succ k ih =>
    rw [ordTo_succ, ih (by omega), col_full cs rows k rows (by omega) (Nat.le_refl _), Nat.succ_mul, List.range_add, List.map_append, List.map_map]
    congr 1
    apply List.map_congr_left
    intro r h
    rw [List.mem_range] at h
    simp only [Function.comp]
    rw [Nat.mul_comm k rows, Nat.mul_add_mod, Nat.mod_eq_of_lt h, Nat.mul_add_div hr, Nat.div_eq_of_lt h]; simp
theorem ord_full (cs rows : Nat) (hr : 0 < rows) (i : Nat) (hi : i < cs * rows) : (ord (cs * rows) rows)[i]? = some ((i % rows) * cs + i / rows) := by
  unfold ord
  rw [cols_full cs rows hr, ordTo_full cs rows cs hr (Nat.le_refl _)]
  simp [hi]
/-- two that are read fewer than 'rows' apart stood at least cs - 1 apart. -/
theorem apart (cs rows i k : Nat) (hr : k < rows) (hk : 0 < k) (hj : i + k < cs * rows) (a b : Nat) (ha : (ord (cs * rows) rows)[i]? = some a) (hb : (ord (cs * rows) rows)[i + k]? = some b) :
    (cs : Int) - 1 ≤ (a : Int) - b ∨ (cs : Int) - 1 ≤ (b : Int) - a := by
  rw [ord_full cs rows (by omega) i (by omega)] at ha
  rw [ord_full cs rows (by omega) _ hj] at hb
  injection ha with ha
  injection hb with hb
  have h1 := Nat.div_add_mod i rows
  have h2 := Nat.mod_lt i (y := rows) (by omega)
  by_cases hlt : i % rows + k < rows
  · have e1 : (i + k) / rows = i / rows := by
      rw [← h1, Nat.add_assoc, Nat.mul_add_div (by omega), Nat.mul_add_div (by omega), Nat.div_eq_of_lt hlt, Nat.div_eq_of_lt h2]
    have e2 : (i + k) % rows = i % rows + k := by
      conv => lhs; rw [← h1]
      rw [Nat.add_assoc, Nat.mul_add_mod, Nat.mod_eq_of_lt hlt]
    rw [e1, e2, Nat.add_mul] at hb
    have := Nat.mul_le_mul_right cs hk
    omega
  · have e1 : (i + k) / rows = i / rows + 1 := by
      rw [Nat.div_eq_iff (by omega)]
      rw [Nat.add_mul, Nat.one_mul, Nat.mul_comm]
      omega
    have e2 : (i + k) % rows = i % rows + k - rows := by
      have h3 := Nat.div_add_mod (i + k) rows
      rw [e1, Nat.mul_add, Nat.mul_one] at h3
      omega
    rw [e1, e2] at hb
    obtain ⟨d, hd⟩ : ∃ d, i % rows = (i % rows + k - rows) + d + 1 := ⟨rows - k - 1, by omega⟩
    have e3 : (i % rows) * cs = (i % rows + k - rows) * cs + (d + 1) * cs := by
      conv => lhs; rw [hd]
      rw [Nat.add_assoc, Nat.add_mul]
    have := Nat.mul_le_mul_right cs (show 1 ≤ d + 1 by omega)
    omega
/-- bit i of a text, from the highest of its first byte on. -/
def bitAt (b : List Nat) (i : Nat) : Nat := b.getD (i / 8) 0 / 2 ^ (7 - i % 8) % 2
theorem bitAt_le (b : List Nat) (i : Nat) : bitAt b i ≤ 1 := by unfold bitAt; omega
def bitsOf (b : List Nat) : List Nat := (List.range (8 * b.length)).map (bitAt b)
/-- eight bits as a number. -/
def val8 (y : List Nat) (s : Nat) : Nat :=
  128 * y.getD s 0 + 64 * y.getD (s + 1) 0 + 32 * y.getD (s + 2) 0 + 16 * y.getD (s + 3) 0 + 8 * y.getD (s + 4) 0 + 4 * y.getD (s + 5) 0 + 2 * y.getD (s + 6) 0 + y.getD (s + 7) 0
/-- m bytes of bits. -/
def pack (m : Nat) (y : List Nat) : List Nat := (List.range m).map fun t => val8 y (8 * t)
def Bit (y : List Nat) : Prop := ∀ i, y.getD i 0 ≤ 1
theorem val8_lt {y : List Nat} (h : Bit y) (s : Nat) : val8 y s < 256 := by
  have h0 := h s; have h1 := h (s + 1); have h2 := h (s + 2); have h3 := h (s + 3); have h4 := h (s + 4); have h5 := h (s + 5); have h6 := h (s + 6); have h7 := h (s + 7)
  unfold val8; omega
theorem or_bit : ∀ x : Fin 256, ∀ i : Fin 8, x.val / 2 ^ i.val % 2 = 0 → x.val ||| 2 ^ i.val = x.val + 2 ^ i.val := by decide +kernel
theorem val8_bit {y : List Nat} (h : Bit y) (t j : Nat) (hj : j < 8) : val8 y (8 * t) / 2 ^ (7 - j) % 2 = y.getD (8 * t + j) 0 := by
  have h0 := h (8 * t); have h1 := h (8 * t + 1); have h2 := h (8 * t + 2); have h3 := h (8 * t + 3); have h4 := h (8 * t + 4); have h5 := h (8 * t + 5); have h6 := h (8 * t + 6); have h7 := h (8 * t + 7)
  unfold val8
  rcases (show j = 0 ∨ j = 1 ∨ j = 2 ∨ j = 3 ∨ j = 4 ∨ j = 5 ∨ j = 6 ∨ j = 7 by omega) with rfl | rfl | rfl | rfl | rfl | rfl | rfl | rfl
  all_goals simp only [Nat.reduceSub, Nat.reducePow, Nat.pow_one, Nat.pow_zero, Nat.add_zero]; omega
theorem getD_set (y : List Nat) (p v i : Nat) (hp : p < y.length) : (y.set p v).getD i 0 = if i = p then v else y.getD i 0 := by
  simp only [List.getD_eq_getElem?_getD, List.getElem?_set]
  by_cases h : p = i
  · subst h; simp [hp]
  · rw [if_neg h, if_neg (fun e => h e.symm)]
theorem bit_set {y : List Nat} (h : Bit y) (p v : Nat) (hp : p < y.length) (hv : v ≤ 1) : Bit (y.set p v) := by
  intro i
  rw [getD_set y p v i hp]
  split
  · exact hv
  · exact h i
theorem val8_set {y : List Nat} (h : Bit y) (p v t : Nat) (hp : p < y.length) (hz : y.getD p 0 = 0) (hv : v ≤ 1) :
    val8 (y.set p v) (8 * t) = if t = p / 8 then val8 y (8 * t) ||| v * 2 ^ (7 - p % 8) else val8 y (8 * t) := by
  by_cases ht : t = p / 8
  · rw [if_pos ht]
    have hpe : p = 8 * t + p % 8 := by have := Nat.div_add_mod p 8; omega
    have hj := Nat.mod_lt p (y := 8) (by omega)
    generalize p % 8 = j at *
    subst hpe
    have hor : val8 y (8 * t) ||| v * 2 ^ (7 - j) = val8 y (8 * t) + v * 2 ^ (7 - j) := by
      rcases (show v = 0 ∨ v = 1 by omega) with rfl | rfl
      · simp
      · have := or_bit ⟨val8 y (8 * t), val8_lt h _⟩ ⟨7 - j, by omega⟩ (by simp only []; rw [val8_bit h t j hj]; exact hz)
        simpa using this
    rw [hor]
    unfold val8
    simp only [getD_set y _ v _ hp]
    rcases (show j = 0 ∨ j = 1 ∨ j = 2 ∨ j = 3 ∨ j = 4 ∨ j = 5 ∨ j = 6 ∨ j = 7 by omega) with rfl | rfl | rfl | rfl | rfl | rfl | rfl | rfl <;> simp at hz ⊢ <;> omega
  · rw [if_neg ht]
    unfold val8
    simp only [getD_set y p v _ hp]
    have hpe := Nat.div_add_mod p 8
    have hj := Nat.mod_lt p (y := 8) (by omega)
    rw [if_neg (by omega), if_neg (by omega), if_neg (by omega), if_neg (by omega), if_neg (by omega), if_neg (by omega), if_neg (by omega), if_neg (by omega)]
theorem pack_set {y : List Nat} (h : Bit y) (m p v : Nat) (hm : y.length = 8 * m) (hp : p < y.length) (hz : y.getD p 0 = 0) (hv : v ≤ 1) :
    pack m (y.set p v) = (pack m y).set (p / 8) (val8 y (8 * (p / 8)) ||| v * 2 ^ (7 - p % 8)) := by
  apply List.ext_getElem?
  intro t
  simp only [pack, List.getElem?_set, List.length_map, List.length_range, List.getElem?_map]
  by_cases ht : t < m
  · rw [List.getElem?_range ht]
    simp only [Option.map_some, val8_set h p v t hp hz hv]
    by_cases e : p / 8 = t
    · subst e; simp [ht]
    · rw [if_neg e, if_neg (fun h => e h.symm)]
  · rw [List.getElem?_eq_none (by simpa using ht)]
    rw [if_neg (by omega)]
    rfl
/-! ### bits laid one by one -/
/-- behind k rounds: bit F[i] of the text stands at T[i], for each i below k. -/
def layTo (b F T : List Nat) : Nat → List Nat
  | 0 => List.replicate T.length 0
  | k + 1 => (layTo b F T k).set (T.getD k 0) (bitAt b (F.getD k 0))
theorem layTo_length (b F T : List Nat) (k : Nat) : (layTo b F T k).length = T.length := by
  induction k with
  | zero => simp [layTo]
  | succ k ih => simp [layTo, ih]
theorem getD_set' (y : List Nat) (p v i : Nat) : (y.set p v).getD i 0 = if i = p ∧ p < y.length then v else y.getD i 0 := by
  by_cases hp : p < y.length
  · rw [getD_set y p v i hp]; simp [hp]
  · rw [if_neg (by omega), List.set_eq_of_length_le (by omega)]
theorem layTo_bit (b F T : List Nat) (k : Nat) : Bit (layTo b F T k) := by
  induction k with
  | zero => intro i; simp only [layTo, List.getD_eq_getElem?_getD, List.getElem?_replicate]; split <;> simp
  | succ k ih =>
    intro i
    simp only [layTo]
    rw [getD_set']
    split
    · exact bitAt_le _ _
    · exact ih i
theorem layTo_out (b F T : List Nat) (p : Nat) (k : Nat) (h : ∀ i, i < k → T.getD i 0 ≠ p) : (layTo b F T k).getD p 0 = 0 := by
  induction k with
  | zero => simp only [layTo, List.getD_eq_getElem?_getD, List.getElem?_replicate]; split <;> simp
  | succ k ih =>
    simp only [layTo]
    rw [getD_set', if_neg (fun e => h k (by omega) e.1.symm)]
    exact ih fun i hi => h i (by omega)
theorem nodup_getD {T : List Nat} (hn : T.Nodup) {i j : Nat} (hi : i < T.length) (hj : j < T.length) (h : T.getD i 0 = T.getD j 0) : i = j := by
  simp only [List.getD_eq_getElem?_getD, List.getElem?_eq_getElem hi, List.getElem?_eq_getElem hj, Option.getD_some] at h
  exact (List.getElem?_inj hi hn).1 (by rw [List.getElem?_eq_getElem hi, List.getElem?_eq_getElem hj, h])
theorem layTo_in (b F T : List Nat) (hn : T.Nodup) (hb : ∀ i, i < T.length → T.getD i 0 < T.length) (k i : Nat) (hi : i < k) (hk : k ≤ T.length) : (layTo b F T k).getD (T.getD i 0) 0 = bitAt b (F.getD i 0) := by
  induction k with
  | zero => omega
  | succ k ih =>
    simp only [layTo]
    rw [getD_set', layTo_length]
    by_cases e : i = k
    · subst e; rw [if_pos ⟨rfl, hb i (by omega)⟩]
    · rw [if_neg (fun h => e (nodup_getD hn (by omega) (by omega) h.1))]
      exact ih (by omega) (by omega)
theorem layTo_zero_next (b F T : List Nat) (hn : T.Nodup) (k : Nat) (hk : k < T.length) : (layTo b F T k).getD (T.getD k 0) 0 = 0 :=
  layTo_out b F T _ k fun i hi h => by have := nodup_getD hn (by omega) hk h; omega

/-! ### what is woven, and unwoven -/
def doBits (b : List Nat) (rows : Nat) : List Nat := (ord (8 * b.length) rows).map (bitAt b)
def undoBits (b : List Nat) (rows : Nat) : List Nat := layTo b (List.range (8 * b.length)) (ord (8 * b.length) rows) (8 * b.length)
def doT (b : List Nat) (rows : Nat) : List Nat := pack b.length (doBits b rows)
def undoT (b : List Nat) (rows : Nat) : List Nat := pack b.length (undoBits b rows)
theorem ord_lt (n rows : Nat) (h : 0 < rows) (i : Nat) (hi : i < n) : (ord n rows).getD i 0 < n := by
  have hl := length_ord n rows h
  rw [List.getD_eq_getElem?_getD, List.getElem?_eq_getElem (by omega), Option.getD_some]
  exact (mem_ord h).1 (List.getElem_mem _)
theorem range_getD (n i : Nat) (h : i < n) : (List.range n).getD i 0 = i := by simp [List.getD_eq_getElem?_getD, List.getElem?_range h]
theorem ext_getD {a c : List Nat} (hl : a.length = c.length) (h : ∀ i, i < a.length → a.getD i 0 = c.getD i 0) : a = c := by
  apply List.ext_getElem hl
  intro i h1 h2
  have := h i h1
  simpa [List.getD_eq_getElem?_getD, List.getElem?_eq_getElem h1, List.getElem?_eq_getElem h2] using this
theorem doBits_length (b : List Nat) (rows : Nat) (h : 0 < rows) : (doBits b rows).length = 8 * b.length := by simp [doBits, length_ord _ _ h]
theorem doBits_getD (b : List Nat) (rows i : Nat) (h : 0 < rows) (hi : i < 8 * b.length) : (doBits b rows).getD i 0 = bitAt b ((ord (8 * b.length) rows).getD i 0) := by
  have hl := length_ord (8 * b.length) rows h
  simp [doBits, List.getD_eq_getElem?_getD, List.getElem?_eq_getElem (show i < (ord (8 * b.length) rows).length by omega)]
theorem undoBits_length (b : List Nat) (rows : Nat) (h : 0 < rows) : (undoBits b rows).length = 8 * b.length := by unfold undoBits; rw [layTo_length, length_ord _ _ h]
theorem undoBits_getD (b : List Nat) (rows i : Nat) (h : 0 < rows) (hi : i < 8 * b.length) : (undoBits b rows).getD ((ord (8 * b.length) rows).getD i 0) 0 = bitAt b i := by
  have hl := length_ord (8 * b.length) rows h
  unfold undoBits
  rw [layTo_in _ _ _ (nodup_ord _ _) (fun j hj => by rw [hl] at hj ⊢; exact ord_lt _ _ h j hj) _ i hi (by omega), range_getD _ _ hi]
/-- Do of the program, bit by bit, is the reference's. -/
theorem lay_do (b : List Nat) (rows : Nat) (h : 0 < rows) : layTo b (ord (8 * b.length) rows) (List.range (8 * b.length)) (8 * b.length) = doBits b rows := by
  apply ext_getD
  · rw [layTo_length, List.length_range, doBits_length b rows h]
  · intro i hi
    rw [layTo_length, List.length_range] at hi
    have := layTo_in b (ord (8 * b.length) rows) (List.range (8 * b.length)) List.nodup_range (fun j hj => by rw [List.length_range] at hj ⊢; rw [range_getD _ _ hj]; exact hj) (8 * b.length) i hi (by simp)
    rw [range_getD _ _ hi] at this
    rw [this, doBits_getD b rows i h hi]
theorem doBits_bit (b : List Nat) (rows : Nat) : Bit (doBits b rows) := by
  intro i
  simp only [doBits, List.getD_eq_getElem?_getD, List.getElem?_map]
  cases (ord (8 * b.length) rows)[i]? with
  | none => simp
  | some x => simp; exact bitAt_le _ _
/-- bit i of packed bits is bit i. -/
theorem bitAt_pack {y : List Nat} (hy : Bit y) (m i : Nat) (hi : i < 8 * m) : bitAt (pack m y) i = y.getD i 0 := by
  unfold bitAt
  have h1 : (pack m y).getD (i / 8) 0 = val8 y (8 * (i / 8)) := by
    simp [pack, List.getD_eq_getElem?_getD, List.getElem?_map, List.getElem?_range (show i / 8 < m by omega)]
  rw [h1, val8_bit hy _ _ (Nat.mod_lt _ (by omega)), Nat.div_add_mod]
theorem pack_length (m : Nat) (y : List Nat) : (pack m y).length = m := by simp [pack]
theorem doT_length (b : List Nat) (rows : Nat) : (doT b rows).length = b.length := pack_length _ _
theorem undoT_length (b : List Nat) (rows : Nat) : (undoT b rows).length = b.length := pack_length _ _
theorem bits8 (x : Nat) (h : x < 256) : 128 * (x / 128 % 2) + 64 * (x / 64 % 2) + 32 * (x / 32 % 2) + 16 * (x / 16 % 2) + 8 * (x / 8 % 2) + 4 * (x / 4 % 2) + 2 * (x / 2 % 2) + x % 2 = x := by omega
theorem bitAt_of (b : List Nat) (t j : Nat) (hj : j < 8) : bitAt b (8 * t + j) = b.getD t 0 / 2 ^ (7 - j) % 2 := by
  unfold bitAt
  rw [Nat.mul_add_div (by omega), Nat.mul_add_mod, Nat.div_eq_of_lt hj, Nat.mod_eq_of_lt hj]; rfl
/-- a text out of its bits. -/
theorem pack_of {b y : List Nat} (hb : ∀ x ∈ b, x < 256) (h : ∀ i, i < 8 * b.length → y.getD i 0 = bitAt b i) : pack b.length y = b := by
  apply ext_getD (by simp [pack])
  intro t ht
  rw [pack_length] at ht
  have h1 : (pack b.length y).getD t 0 = val8 y (8 * t) := by simp [pack, List.getD_eq_getElem?_getD, List.getElem?_map, List.getElem?_range ht]
  have hx : b.getD t 0 < 256 := by
    rw [List.getD_eq_getElem?_getD, List.getElem?_eq_getElem ht, Option.getD_some]
    exact hb _ (List.getElem_mem _)
  rw [h1]
  unfold val8
  have g := fun j (hj : j < 8) => (h (8 * t + j) (by omega)).trans (bitAt_of b t j hj)
  have g0 := g 0 (by omega)
  rw [Nat.add_zero] at g0
  rw [g0, g 1 (by omega), g 2 (by omega), g 3 (by omega), g 4 (by omega), g 5 (by omega), g 6 (by omega), g 7 (by omega)]
  have := bits8 (b.getD t 0) hx
  simp only [Nat.reduceSub, Nat.reducePow, Nat.pow_one, Nat.pow_zero, Nat.div_one]
  exact this
theorem undo_do (b : List Nat) (rows : Nat) (h : 0 < rows) (hb : ∀ x ∈ b, x < 256) : undoT (doT b rows) rows = b := by
  unfold undoT
  rw [doT_length]
  apply pack_of hb
  intro p hp
  have hmem : p ∈ ord (8 * b.length) rows := (mem_ord h).2 hp
  obtain ⟨i, hi, hpi⟩ := List.getElem_of_mem hmem
  have hl := length_ord (8 * b.length) rows h
  have e : (ord (8 * b.length) rows).getD i 0 = p := by rw [List.getD_eq_getElem?_getD, List.getElem?_eq_getElem hi, Option.getD_some, hpi]
  have := undoBits_getD (doT b rows) rows i h (by rw [doT_length]; omega)
  rw [doT_length] at this
  rw [e] at this
  rw [this]
  unfold doT
  rw [bitAt_pack (doBits_bit b rows) _ _ (by omega), doBits_getD b rows i h (by omega), e]
theorem do_undo (b : List Nat) (rows : Nat) (h : 0 < rows) (hb : ∀ x ∈ b, x < 256) : doT (undoT b rows) rows = b := by
  unfold doT
  rw [undoT_length]
  apply pack_of hb
  intro i hi
  have := doBits_getD (undoT b rows) rows i h (by rw [undoT_length]; exact hi)
  rw [undoT_length] at this
  rw [this]
  have hlt := ord_lt (8 * b.length) rows h i hi
  unfold undoT
  rw [bitAt_pack (by unfold undoBits; exact layTo_bit _ _ _ _) _ _ hlt, undoBits_getD b rows i h hi]
end Go.Proofs.Ytcbbnddhihmafaa.We
