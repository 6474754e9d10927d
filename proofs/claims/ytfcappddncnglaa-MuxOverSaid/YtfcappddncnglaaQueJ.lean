/- Layer 19: the law QueueOrder, walked. No conditions. -/
import Derived.Test.YtfcappddncnglaaQueI
namespace Go.Proofs.Ytfcappddncnglaa
open Go.RowKit
set_option linter.unusedVariables false

theorem Txs.append {w : World} {vs us : List Value} {ms ns : List (List Nat)} (h : Txs w vs ms) (k : Txs w us ns) : Txs w (vs ++ us) (ms ++ ns) := by
  refine ⟨by simp [h.1, k.1], fun i x hx => ?_⟩
  by_cases hi : i < ms.length
  · rw [List.getElem?_append_left hi] at hx
    obtain ⟨u, hu, hux⟩ := h.2 i x hx
    exact ⟨u, by rw [List.getElem?_append_left (by rw [h.1]; exact hi)]; exact hu, hux⟩
  · rw [List.getElem?_append_right (by omega)] at hx
    obtain ⟨u, hu, hux⟩ := k.2 _ x hx
    exact ⟨u, by rw [List.getElem?_append_right (by rw [h.1]; omega), h.1]; exact hu, hux⟩
theorem Txs.one {w : World} {vs : List Value} {ms : List (List Nat)} (h : Txs w vs ms) : ∀ u ∈ vs, u.oneCell' = true := by
  intro u hu
  obtain ⟨i, hi⟩ := List.getElem?_of_mem hu
  have hil : i < ms.length := by rw [← h.1]; exact (List.getElem?_eq_some_iff.1 hi).1
  obtain ⟨v, hv, A, c, rfl, _⟩ := h.2 i _ (List.getElem?_eq_getElem hil)
  have := Option.some.inj (hv.symm.trans hi)
  rw [← this]; rfl
/-- two rows of texts beside a queue: what went in, what came out. -/
structure Ord (w0 w : World) (g room : Nat) (ms ins outs : List (List Nat)) (F : Nat → Prop) (VI : Value) (vi : List Value) (VO : Value) (vo : List Value) : Prop where
  q : Qu w w0.heap.size g room ms F
  ri : w.ownsRow w0.heap.size 33 1 VI ins.length vi
  ro : w.ownsRow w0.heap.size 33 1 VO outs.length vo
  ti : Txs w0 vi ins
  to : Txs w vo outs
  bo : ∀ v ∈ vo, ∀ k, v.ownBlock = some k → k < w.heap.size ∧ ¬ F k ∧ VI.ownBlock ≠ some k ∧ VO.ownBlock ≠ some k
  fi : ∀ k, VI.ownBlock = some k → ¬ F k ∧ VO.ownBlock ≠ some k
  fo : ∀ k, VO.ownBlock = some k → ¬ F k
  bel : Below w0.heap.size w0 w
section
variable {w0 w w2 : World} {g room : Nat} {ms ms' ins outs : List (List Nat)} {F F' : Nat → Prop} {VI VO V' v : Value} {vi vo : List Value} {m : List Nat}
theorem Ord.turn (h : Ord w0 w g room ms ins outs F VI vi VO vo) (ht : Turn F F' w w2) (hq : Qu w2 w0.heap.size g room ms' F') : Ord w0 w2 g room ms' ins outs F' VI vi VO vo := by
  have hn : ∀ k, k < w.heap.size → ¬ F k → ¬ F' k := fun k hk hf hf' => (ht.new k hf').elim hf (by omega)
  refine ⟨hq, own_keep h.ri fun k hk => ht.block k (own_block_lt h.ri hk).2 (h.fi k hk).1, own_keep h.ro fun k hk => ht.block k (own_block_lt h.ro hk).2 (h.fo k hk), h.ti,
    h.to.kept (fun u hu k hk => ht.block k (h.bo u hu k hk).1 (h.bo u hu k hk).2.1) ht.size, ?_, ?_, ?_, ht.below h.bel h.q.1 h.bel.size⟩
  · intro u hu k hk
    obtain ⟨a, b, c, d⟩ := h.bo u hu k hk
    exact ⟨Nat.lt_of_lt_of_le a ht.size, hn k a b, c, d⟩
  · intro k hk
    exact ⟨hn k (own_block_lt h.ri hk).2 (h.fi k hk).1, (h.fi k hk).2⟩
  · intro k hk
    exact hn k (own_block_lt h.ro hk).2 (h.fo k hk)
theorem Ord.drewN (h : Ord w0 w g room ms ins outs F VI vi VO vo) (n : Nat) : Ord w0 (w.drewN n) g room ms ins outs F VI vi VO vo :=
  h.turn ((Turn.refl F w).drewN n) (h.q.drewN n)
theorem Ord.pushO (h : Ord w0 w g room ms ins outs F VI vi VO vo) (ht : Tx w v m) (hv : ∀ k, v.ownBlock = some k → k < w.heap.size ∧ ¬ F k ∧ VI.ownBlock ≠ some k ∧ VO.ownBlock ≠ some k)
    (hown : w2.ownsRow w0.heap.size 33 1 V' (outs.length + 1) (vo ++ [v])) (hg : w.grownBy w2 VO.ownBlock) (hat : V'.ownBlock = VO.ownBlock ∨ V'.ownBlock = some (w.heap.size + 1)) :
    Ord w0 w2 g room ms ins (outs ++ [m]) F VI vi V' (vo ++ [v]) := by
  have hne : ∀ k, k < w.heap.size → VO.ownBlock ≠ some k → V'.ownBlock ≠ some k := by
    intro k hk h1
    rcases hat with e | e
    · rw [e]; exact h1
    · rw [e]; intro e2; injection e2; omega
  refine ⟨h.q.kept (fun k hk => hg.block k (h.q.1 k hk).2 (fun e => h.fo k e.symm hk)) hg.size, own_keep h.ri fun k hk => hg.block k (own_block_lt h.ri hk).2 (fun e => (h.fi k hk).2 e.symm), by rw [List.length_append]; exact hown, h.ti, ?_, ?_, ?_, ?_,
    below_app h.bel h.ro hg h.bel.size⟩
  · exact (h.to.kept (fun u hu k hk => hg.block k (h.bo u hu k hk).1 (fun e => (h.bo u hu k hk).2.2.2 e.symm)) hg.size).snoc (ht.kept (fun k hk => hg.block k (hv k hk).1 (fun e => (hv k hk).2.2.2 e.symm)) hg.size)
  · intro u hu k hk
    have : k < w.heap.size ∧ ¬ F k ∧ VI.ownBlock ≠ some k ∧ VO.ownBlock ≠ some k := by
      rcases List.mem_append.1 hu with hu | hu
      · exact h.bo u hu k hk
      · simp at hu; subst hu; exact hv k hk
    exact ⟨Nat.lt_of_lt_of_le this.1 hg.size, this.2.1, this.2.2.1, hne k this.1 this.2.2.2⟩
  · intro k hk
    exact ⟨(h.fi k hk).1, hne k (own_block_lt h.ri hk).2 (h.fi k hk).2⟩
  · intro k hk
    rcases hat with e | e
    · exact h.fo k (e ▸ hk)
    · rw [e] at hk; injection hk with hk
      intro hf
      have := (h.q.1 k hf).2
      omega
theorem Ord.pushI (h : Ord w0 w g room ms ins outs F VI vi VO vo) (ht : Tx w0 v m)
    (hown : w2.ownsRow w0.heap.size 33 1 V' (ins.length + 1) (vi ++ [v])) (hg : w.grownBy w2 VI.ownBlock) (hat : V'.ownBlock = VI.ownBlock ∨ V'.ownBlock = some (w.heap.size + 1)) :
    Ord w0 w2 g room ms (ins ++ [m]) outs F V' (vi ++ [v]) VO vo := by
  have hne : ∀ k, k < w.heap.size → VI.ownBlock ≠ some k → V'.ownBlock ≠ some k := by
    intro k hk h1
    rcases hat with e | e
    · rw [e]; exact h1
    · rw [e]; intro e2; injection e2; omega
  refine ⟨h.q.kept (fun k hk => hg.block k (h.q.1 k hk).2 (fun e => (h.fi k e.symm).1 hk)) hg.size, by rw [List.length_append]; exact hown, own_keep h.ro fun k hk => hg.block k (own_block_lt h.ro hk).2 (fun e => (h.fi k e.symm).2 hk), h.ti.snoc ht, ?_, ?_, ?_, h.fo,
    below_app h.bel h.ri hg h.bel.size⟩
  · exact h.to.kept (fun u hu k hk => hg.block k (h.bo u hu k hk).1 (fun e => (h.bo u hu k hk).2.2.1 e.symm)) hg.size
  · intro u hu k hk
    obtain ⟨a, b, c, d⟩ := h.bo u hu k hk
    exact ⟨Nat.lt_of_lt_of_le a hg.size, b, hne k a c, d⟩
  · intro k hk
    rcases hat with e | e
    · exact h.fi k (e ▸ hk)
    · rw [e] at hk; injection hk with hk
      exact ⟨fun hf => by have := (h.q.1 k hf).2; omega, fun e2 => by have := (own_block_lt h.ro e2).2; omega⟩
/-- what was popped is new. -/
theorem Ord.fresh {w3 : World} {n : Nat} {xs : List Value} (h : Ord w0 w g room ms ins outs F VI vi VO vo) (ho : w3.ownsRow w.heap.size 5 1 v n xs) : ∀ k, v.ownBlock = some k → k < w3.heap.size ∧ ¬ F k ∧ VI.ownBlock ≠ some k ∧ VO.ownBlock ≠ some k := by
  intro k hk
  have := own_block_lt ho hk
  exact ⟨this.2, fun hf => by have := (h.q.1 k hf).2; omega, fun e => by have := (own_block_lt h.ri e).2; omega, fun e => by have := (own_block_lt h.ro e).2; omega⟩
end
theorem order_live (r : Int) (hr : r < 1 ∨ 16 < r) {w : World} {a : Option Addr} {c : Nat} {l : List (Bool × List Nat)} (hl : InA19 w a c l) :
    Calls Try.prog 4 #[.int .i64 r, .slice a l.length c] w fun e w' => e = .returned (.bool true) ∧ Below w.heap.size w w' := by
  have HH := hide (huge19 hl)
  have HN := hide (que_bad r hr w)
  clear hl hr
  go_enter Try.func4, Try.ntmps4
  go_wp2_with fail
  refine HN.out.mono ?_; rintro e w' ⟨rfl, rfl⟩
  go_wp2_with fail
  refine HH.out.mono ?_; rintro e w' ⟨b, rfl, rfl, _⟩
  cases b
  · go_wp2_with fail
    refine (num19 _ _).mono ?_; rintro e w' ⟨rfl, rfl⟩
    go_wp2_with fail
    refine (live19 _).mono ?_; rintro e w' ⟨rfl, hb⟩
    go_wp2
    go_ret
    exact ⟨rfl, hb⟩
  · go_wp2_with fail
    refine (live19 _).mono ?_; rintro e w' ⟨rfl, hb⟩
    go_wp2
    go_ret
    exact ⟨rfl, hb⟩
end Go.Proofs.Ytfcappddncnglaa
