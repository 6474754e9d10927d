/- Texts: slices of bytes, rows of them; Clone, Copy, SameAll, CopyAll. No conditions. -/
import Derived.Test.YtnbhgeodbpelgaaSep
import Derived.Test.YtnbhgeodbpelgaaSame
namespace Go.Proofs.Ytnbhgeodbpelgaa
open Go.RowKit
set_option linter.unusedVariables false

theorem Try.infB : (Try.prog.info? 34).map (fun i => (i.zero, i.size, i.bytes)) = some (some (.slice none 0 0), 1, 24) := by kernel_rfl
/-- a value that is a slice with the bytes m. -/
def Tx (w : World) (v : Value) (m : List Nat) : Prop := ∃ A c, v = .slice A m.length c ∧ Rd w.heap.size w A (u8s m)
/-- values that are slices with the texts ms. -/
def Txs (w : World) (vs : List Value) (ms : List (List Nat)) : Prop := vs.length = ms.length ∧ ∀ (i : Nat) m, ms[i]? = some m → ∃ v, vs[i]? = some v ∧ Tx w v m
/-- a new text. -/
def NewT (m : List Nat) (w : World) (e : Ending) (w' : World) : Prop := ∃ A c, e = .returned (.slice A m.length c) ∧ w'.ownsRow w.heap.size 5 1 (.slice A m.length c) m.length (u8s m) ∧ Below w.heap.size w w'
section
variable {w w' : World} {v : Value} {m : List Nat} {vs : List Value} {ms : List (List Nat)}
theorem Tx.kept (h : Tx w v m) (hk : ∀ k, v.ownBlock = some k → w'.heap[k]? = w.heap[k]?) (hs : w.heap.size ≤ w'.heap.size) : Tx w' v m := by
  obtain ⟨A, c, rfl, hr⟩ := h
  exact ⟨A, c, rfl, (rd_keep hr (fun b o s e => hk b (by rw [e]; rfl))).more hs⟩
theorem Tx.on (h : Tx w v m) (hb : Below w.heap.size w w') : Tx w' v m := by
  obtain ⟨A, c, rfl, hr⟩ := h
  exact ⟨A, c, rfl, hr.on hb⟩
theorem Txs.kept (h : Txs w vs ms) (hk : ∀ u ∈ vs, ∀ k, u.ownBlock = some k → w'.heap[k]? = w.heap[k]?) (hs : w.heap.size ≤ w'.heap.size) : Txs w' vs ms :=
  ⟨h.1, fun i m hm => by
    obtain ⟨v, hv, ht⟩ := h.2 i m hm
    exact ⟨v, hv, ht.kept (hk v (List.mem_of_getElem? hv)) hs⟩⟩
theorem Txs.on (h : Txs w vs ms) (hb : Below w.heap.size w w') : Txs w' vs ms :=
  ⟨h.1, fun i m hm => by
    obtain ⟨v, hv, ht⟩ := h.2 i m hm
    exact ⟨v, hv, ht.on hb⟩⟩
theorem Txs.nil (w : World) : Txs w [] [] := ⟨rfl, fun i m h => by simp at h⟩
theorem Txs.snoc (h : Txs w vs ms) (ht : Tx w v m) : Txs w (vs ++ [v]) (ms ++ [m]) := by
  refine ⟨by simp [h.1], fun i x hx => ?_⟩
  by_cases hi : i < ms.length
  · rw [List.getElem?_append_left hi] at hx
    obtain ⟨u, hu, hux⟩ := h.2 i x hx
    exact ⟨u, by rw [List.getElem?_append_left (by rw [h.1]; exact hi)]; exact hu, hux⟩
  · have hl := (List.getElem?_eq_some_iff.1 hx).1
    simp at hl
    have : i = ms.length := by omega
    subst this
    have e : m = x := by simpa using hx
    subst e
    exact ⟨v, by rw [← h.1]; simp, ht⟩
theorem Txs.tail (h : Txs w vs ms) : Txs w (vs.drop 1) (ms.drop 1) := by
  refine ⟨by simp [h.1], fun i x hx => ?_⟩
  rw [List.getElem?_drop] at hx
  obtain ⟨u, hu, hux⟩ := h.2 _ x hx
  exact ⟨u, by rw [List.getElem?_drop]; exact hu, hux⟩
theorem Txs.take (h : Txs w vs ms) (n : Nat) : Txs w (vs.take n) (ms.take n) := by
  refine ⟨by simp [h.1], fun i x hx => ?_⟩
  have hi : i < n := by
    have := (List.getElem?_eq_some_iff.1 hx).1
    simp at this; omega
  rw [List.getElem?_take, if_pos hi] at hx
  obtain ⟨u, hu, hux⟩ := h.2 _ x hx
  exact ⟨u, by rw [List.getElem?_take, if_pos hi]; exact hu, hux⟩
theorem own_tx {base e c : Nat} {A : Option Addr} (h : w.ownsRow base e 1 (.slice A m.length c) m.length (u8s m)) : Tx w (.slice A m.length c) m := ⟨A, c, rfl, own_rd h⟩
end

/-! ### Clone, Copy -/
theorem clone_u8 (A : Option Addr) (c : Nat) (l : List Nat) (hl : l.length ≤ 140737488355328) (w : World) (hA : Rd w.heap.size w A (u8s l)) :
    Calls Try.prog 90 #[.slice A l.length c] w (NewT l w) := by
  obtain ⟨i0, hi, hz0, hz1, hz2⟩ := info_parts Try.inf8
  have q : ∀ (w : World) (a : Option Addr) (n c n' c' : Nat), (binOp .eql 34 (.slice a n c) (.slice none n' c')).run Try.prog w = .ok (.bool a.isNone) w := fun w a n c n' c' => Lib.run_eql_slice_nil w _ _ a n c n' c' Try.underlying34
  cases A with
  | none =>
    have hl0 : l = [] := by
      rcases l with _ | ⟨x, l⟩
      · rfl
      · obtain ⟨b, o, hb, _⟩ := hA (by simp [u8s]); cases hb
    subst hl0
    clear hA hl
    go_enter Try.func90, Try.ntmps90
    go_wp2
    go_ret
    exact ⟨none, 0, rfl, World.ownsRow_nil _ _ _ _, Below.refl _ _⟩
  | some A =>
    have HA := hide hA
    have g3 : l.length = (u8s l).length := (u8s_length l).symm
    have G3 := hide g3
    have g1 : 0 + (u8s l).length ≤ 9223372036854775807 := by rw [u8s_length]; omega
    have g2 : (0 + (u8s l).length) * 1 ≤ 140737488355328 := by rw [u8s_length]; omega
    clear hA g3
    go_enter Try.func90, Try.ntmps90
    go_wp2_with (at_builtin; refine wpList_appN _ rfl (.tmp 5) (.tmp 6) 34 rfl w.heap.size 5 i0 (.int .u8 0) 1 Try.underlying34 hi hz0 hz1 hz2 rfl _ _ _ rfl (own_zero w _) (some A) c w.heap.size l.length (u8s l) (by rfl) G3.out ((HA.out).below ((Below.refl _ _).alloc (Nat.le_refl _) _) (Nat.le_refl _)) (u8s_one l) g1 g2 ((Below.refl w.heap.size w).alloc (Nat.le_refl _) _).size ?_; intro v' w2 hown1 hg1 hat1)
    go_ret
    rw [List.nil_append, Nat.zero_add, ← G3.out] at hown1
    obtain ⟨A', c', rfl, _⟩ := own_val hown1
    exact ⟨A', c', rfl, hown1, below_app ((Below.refl _ _).alloc (Nat.le_refl _) _) (own_zero w _) hg1 ((Below.refl w.heap.size w).alloc (Nat.le_refl _) _).size⟩
theorem copy_u8 (A : Option Addr) (c : Nat) (l : List Nat) (hl : l.length ≤ 140737488355328) (w : World) (hA : Rd w.heap.size w A (u8s l)) :
    Calls Try.prog 55 #[.slice A l.length c] w (NewT l w) := by
  obtain ⟨i0, hi, hz0, hz1, hz2⟩ := info_parts Try.inf8
  have HA := hide hA
  have g3 : l.length = (u8s l).length := (u8s_length l).symm
  have G3 := hide g3
  have g1 : 0 + (u8s l).length ≤ 9223372036854775807 := by rw [u8s_length]; omega
  have g2 : (0 + (u8s l).length) * 1 ≤ 140737488355328 := by rw [u8s_length]; omega
  clear hA g3
  go_enter Try.func55, Try.ntmps55
  go_wp2_with (at_builtin; refine wpList_appN _ rfl (.tmp 3) (.tmp 4) 34 rfl w.heap.size 5 i0 (.int .u8 0) 1 Try.underlying34 hi hz0 hz1 hz2 rfl _ _ _ rfl (own_zero w _) A c w.heap.size l.length (u8s l) (by rfl) G3.out ((HA.out).below ((Below.refl _ _).alloc (Nat.le_refl _) _) (Nat.le_refl _)) (u8s_one l) g1 g2 ((Below.refl w.heap.size w).alloc (Nat.le_refl _) _).size ?_; intro v' w2 hown1 hg1 hat1)
  go_ret
  rw [List.nil_append, Nat.zero_add, ← G3.out] at hown1
  obtain ⟨A', c', rfl, _⟩ := own_val hown1
  exact ⟨A', c', rfl, hown1, below_app ((Below.refl _ _).alloc (Nat.le_refl _) _) (own_zero w _) hg1 ((Below.refl w.heap.size w).alloc (Nat.le_refl _) _).size⟩
end Go.Proofs.Ytnbhgeodbpelgaa
