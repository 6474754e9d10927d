/- Layer 18's tally: its rows, what is counted; rows of three cells in memory. No conditions. -/
import Derived.Test.YtnbhgeodbpelgaaTalA
namespace Go.Proofs.Ytnbhgeodbpelgaa
open Go.RowKit Go.Maps
set_option linter.unusedVariables false

/-- a row: label, data, count. -/
abbrev Trow := Int × List Nat × Nat
def idxT (s : List Trow) (lb : Int) (m : List Nat) : Option Nat := s.findIdx? (fun r => decide (r.1 = lb ∧ r.2.1 = m))
def upT (s : List Trow) (i : Nat) : List Trow := s.modify i (fun r => (r.1, r.2.1, r.2.2 + 1))
def addT (s : List Trow) (lb : Int) (m : List Nat) : List Trow := match idxT s lb m with | some i => upT s i | none => s ++ [(lb, m, 1)]
def cntT (s : List Trow) (lb : Int) (m : List Nat) : Nat := match idxT s lb m with | some i => ((s[i]?).map (fun r => r.2.2)).getD 0 | none => 0
def bestF (lb : Int) (b : List Nat × Nat) (r : Trow) : List Nat × Nat := if r.1 = lb ∧ b.2 < r.2.2 then (r.2.1, r.2.2) else b
def bestT (s : List Trow) (lb : Int) : List Nat × Nat := s.foldl (bestF lb) ([], 0)
def tot (s : List Trow) : Nat := (s.map (fun r => r.2.2)).sum
def OkT (s : List Trow) : Prop := ∀ r ∈ s, Fit r.1 ∧ Byt r.2.1 ∧ r.2.1.length ≤ 1000000 ∧ 1 ≤ r.2.2
theorem idx_some {s : List Trow} {lb : Int} {m : List Nat} {i : Nat} (h : idxT s lb m = some i) : ∃ c, s[i]? = some (lb, m, c) := by
  unfold idxT at h
  obtain ⟨hi, h1, _⟩ := List.findIdx?_eq_some_iff_getElem.1 h
  simp only [decide_eq_true_eq] at h1
  exact ⟨s[i].2.2, by rw [List.getElem?_eq_getElem hi]; congr 1; obtain ⟨a, b⟩ := h1; exact Prod.ext a (Prod.ext b rfl)⟩
theorem idx_none {s : List Trow} {lb : Int} {m : List Nat} (h : idxT s lb m = none) : ∀ r ∈ s, ¬ (r.1 = lb ∧ r.2.1 = m) := by
  unfold idxT at h
  intro r hr hc
  have := List.findIdx?_eq_none_iff.1 h r hr
  simp [hc] at this
theorem idx_lt {s : List Trow} {lb : Int} {m : List Nat} {i : Nat} (h : idxT s lb m = some i) : i < s.length := by
  obtain ⟨c, hc⟩ := idx_some h
  exact (List.getElem?_eq_some_iff.1 hc).1
theorem idx_push (s : List Trow) (lb : Int) (m : List Nat) (n : Nat) (h : idxT s lb m = none) : idxT (s ++ [(lb, m, n)]) = updK (idxT s) lb m s.length := by
  funext lb' m'
  unfold updK
  by_cases e : lb' = lb ∧ m' = m
  · obtain ⟨rfl, rfl⟩ := e
    rw [if_pos ⟨rfl, rfl⟩]
    unfold idxT at h ⊢
    rw [List.findIdx?_append, h]
    simp [List.findIdx?_cons]
  · rw [if_neg e]
    unfold idxT
    rw [List.findIdx?_append]
    have : ¬ (lb = lb' ∧ m = m') := fun h => e ⟨h.1.symm, h.2.symm⟩
    simp [List.findIdx?_cons, this]
theorem upT_len (s : List Trow) (i : Nat) : (upT s i).length = s.length := by simp [upT]
theorem upT_get (s : List Trow) (i j : Nat) : (upT s i)[j]? = (s[j]?).map (fun r => if j = i then (r.1, r.2.1, r.2.2 + 1) else r) := by
  unfold upT
  rw [List.getElem?_modify]
  cases s[j]? with
  | none => rfl
  | some r =>
    by_cases e : i = j
    · simp [e]
    · have : ¬ j = i := fun h => e h.symm
      simp [e, this]
theorem idx_up (s : List Trow) (i : Nat) : idxT (upT s i) = idxT s := by
  funext lb m
  unfold idxT
  have key : ∀ (s : List Trow) (i : Nat), (upT s i).map (fun r => decide (r.1 = lb ∧ r.2.1 = m)) = s.map (fun r => decide (r.1 = lb ∧ r.2.1 = m)) := by
    intro s i
    apply List.ext_getElem?
    intro j
    rw [List.getElem?_map, List.getElem?_map, upT_get]
    cases s[j]? with
    | none => rfl
    | some r => by_cases e : j = i <;> simp [e]
  have hm : ∀ s : List Trow, s.findIdx? (fun r => decide (r.1 = lb ∧ r.2.1 = m)) = (s.map (fun r => decide (r.1 = lb ∧ r.2.1 = m))).findIdx? id := by
    intro s
    rw [List.findIdx?_map]
    rfl
  rw [hm, hm, key]
theorem tot_snoc (s : List Trow) (r : Trow) : tot (s ++ [r]) = tot s + r.2.2 := by simp [tot]
theorem tot_up : ∀ (s : List Trow) (i : Nat), i < s.length → tot (upT s i) = tot s + 1
  | [], i, h => by simp at h
  | r :: s, 0, h => by simp [tot, upT]; omega
  | r :: s, i + 1, h => by
    have := tot_up s i (by simpa using h)
    unfold tot upT at this ⊢
    simp at this ⊢
    omega
theorem tot_add (s : List Trow) (lb : Int) (m : List Nat) : tot (addT s lb m) = tot s + 1 := by
  unfold addT
  cases h : idxT s lb m with
  | none => simp only; rw [tot_snoc]
  | some i => exact tot_up s i (idx_lt h)
theorem tot_ge : ∀ {s : List Trow} {r : Trow}, r ∈ s → r.2.2 ≤ tot s
  | x :: s, r, h => by
    rcases List.mem_cons.1 h with rfl | h
    · simp [tot]
    · have := tot_ge h
      simp [tot] at this ⊢
      omega
theorem OkT.len : ∀ {s : List Trow}, OkT s → s.length ≤ tot s
  | [], _ => Nat.zero_le _
  | r :: s, h => by
    have h1 := OkT.len (s := s) (fun x hx => h x (List.mem_cons_of_mem _ hx))
    have h2 := (h r (List.mem_cons_self ..)).2.2.2
    simp [tot] at h1 ⊢
    omega
theorem OkT.up {s : List Trow} (h : OkT s) (i : Nat) : OkT (upT s i) := fun r hr => by
  obtain ⟨j, hj⟩ := List.getElem?_of_mem hr
  rw [upT_get] at hj
  obtain ⟨r0, h0, rfl⟩ := Option.map_eq_some_iff.1 hj
  obtain ⟨h1, h2, h3, h4⟩ := h r0 (List.mem_of_getElem? h0)
  by_cases e : j = i
  · rw [if_pos e]; exact ⟨h1, h2, h3, by simp⟩
  · rw [if_neg e]; exact ⟨h1, h2, h3, h4⟩
theorem OkT.push {s : List Trow} (h : OkT s) {lb : Int} {m : List Nat} (hl : Fit lb) (hm : Byt m) (hn : m.length ≤ 1000000) : OkT (s ++ [(lb, m, 1)]) := fun r hr => by
  rcases List.mem_append.1 hr with hr | hr
  · exact h r hr
  · simp at hr; subst hr; exact ⟨hl, hm, hn, Nat.le_refl _⟩
theorem OkT.add {s : List Trow} (h : OkT s) {lb : Int} {m : List Nat} (hl : Fit lb) (hm : Byt m) (hn : m.length ≤ 1000000) : OkT (addT s lb m) := by
  unfold addT
  cases idxT s lb m with
  | none => exact h.push hl hm hn
  | some i => exact h.up i
theorem cnt_some {s : List Trow} {lb : Int} {m : List Nat} {i c : Nat} (h : idxT s lb m = some i) (hc : s[i]? = some (lb, m, c)) : cntT s lb m = c := by
  unfold cntT; rw [h]; simp [hc]
theorem cnt_none {s : List Trow} {lb : Int} {m : List Nat} (h : idxT s lb m = none) : cntT s lb m = 0 := by unfold cntT; rw [h]
theorem cnt_add_some {s : List Trow} {lb : Int} {m : List Nat} {i c : Nat} (h : idxT s lb m = some i) (hc : s[i]? = some (lb, m, c)) : cntT (addT s lb m) lb m = c + 1 := by
  have e : addT s lb m = upT s i := by unfold addT; rw [h]
  rw [e]
  exact cnt_some (i := i) (by rw [idx_up]; exact h) (by rw [upT_get, hc]; simp)
theorem cnt_add_none {s : List Trow} {lb : Int} {m : List Nat} (h : idxT s lb m = none) : cntT (addT s lb m) lb m = 1 := by
  have e : addT s lb m = s ++ [(lb, m, 1)] := by unfold addT; rw [h]
  rw [e]
  exact cnt_some (i := s.length) (by rw [idx_push s lb m 1 h]; unfold updK; rw [if_pos ⟨rfl, rfl⟩]) (by simp)
theorem best_len {s : List Trow} {n : Nat} (h : ∀ r ∈ s, r.2.1.length ≤ n) (lb : Int) : (bestT s lb).1.length ≤ n := by
  have key : ∀ (s : List Trow) (b : List Nat × Nat), (∀ r ∈ s, r.2.1.length ≤ n) → b.1.length ≤ n → (s.foldl (bestF lb) b).1.length ≤ n := by
    intro s
    induction s with
    | nil => intro b _ hb; exact hb
    | cons r s ih =>
      intro b hs hb
      refine ih _ (fun x hx => hs x (List.mem_cons_of_mem _ hx)) ?_
      unfold bestF
      split
      · exact hs r (List.mem_cons_self ..)
      · exact hb
  exact key s _ h (Nat.zero_le _)
theorem best_take (s : List Trow) (lb : Int) {k : Nat} {r : Trow} (h : s[k]? = some r) : bestT (s.take (k + 1)) lb = bestF lb (bestT (s.take k) lb) r := by
  unfold bestT
  rw [List.take_add_one, h]
  simp
/-! ### rows of three cells -/
def rwC (x : Trow × Value) : List Value := [.int .i64 x.1.1, x.2, .int .u64 (x.1.2.2 : Nat)]
def rwsC (L : List (Trow × Value)) : List Value := L.flatMap rwC
theorem rwsC_len (L : List (Trow × Value)) : (rwsC L).length = L.length * 3 := by
  induction L with
  | nil => rfl
  | cons x L ih => simp [rwsC, rwC] at ih ⊢; omega
theorem rwsC_app (L : List (Trow × Value)) (x : Trow × Value) : rwsC (L ++ [x]) = rwsC L ++ rwC x := by simp [rwsC]
theorem rwsC_get {L : List (Trow × Value)} {i : Nat} {x : Trow × Value} (h : L[i]? = some x) {j : Nat} {v : Value} (hj : (rwC x)[j]? = some v) : (rwsC L)[i * 3 + j]? = some v := by
  have hjl : j < 3 := (List.getElem?_eq_some_iff.1 hj).1
  induction L generalizing i with
  | nil => simp at h
  | cons y L ih =>
    have e : rwsC (y :: L) = rwC y ++ rwsC L := by simp [rwsC]
    rw [e]
    cases i with
    | zero =>
      have : y = x := by simpa using h
      subst this
      rw [show 0 * 3 + j = j by omega, List.getElem?_append_left (by show j < 3; exact hjl)]
      exact hj
    | succ i =>
      rw [List.getElem?_append_right (by show 3 ≤ _; omega)]
      rw [show (i + 1) * 3 + j - (rwC y).length = i * 3 + j by show (i + 1) * 3 + j - 3 = _; omega]
      exact ih (by simpa using h)
theorem rwsC_set {L : List (Trow × Value)} {i : Nat} {x : Trow × Value} (h : L[i]? = some x) (n : Nat) : (rwsC L).set (i * 3 + 2) (.int .u64 (n : Nat)) = rwsC (L.set i ((x.1.1, x.1.2.1, n), x.2)) := by
  induction L generalizing i with
  | nil => simp at h
  | cons y L ih =>
    have e : ∀ y (L : List (Trow × Value)), rwsC (y :: L) = rwC y ++ rwsC L := fun y L => by simp [rwsC]
    rw [e]
    cases i with
    | zero =>
      have : y = x := by simpa using h
      subst this
      rw [List.set_append_left _ _ (by show 2 < 3; omega), List.set_cons_zero, e]
      rfl
    | succ i =>
      rw [List.set_append_right _ _ (by show 3 ≤ _; omega), List.set_cons_succ, e]
      rw [show (i + 1) * 3 + 2 - (rwC y).length = i * 3 + 2 by show (i + 1) * 3 + 2 - 3 = _; omega]
      rw [ih (by simpa using h)]
end Go.Proofs.Ytnbhgeodbpelgaa
