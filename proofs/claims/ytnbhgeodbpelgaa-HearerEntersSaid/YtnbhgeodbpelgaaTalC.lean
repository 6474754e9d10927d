/- Rows of three cells in memory: what they lead to, read, written, pushed; append of a struct of three cells, as laws for the walk. No conditions. -/
import Derived.Test.YtnbhgeodbpelgaaTalB
import Derived.Test.YtnbhgeodbpelgaaApp
namespace Go.Proofs.Ytnbhgeodbpelgaa
open Go.RowKit Go.Maps
set_option linter.unusedVariables false

theorem own_form {w : World} {base e sz n : Nat} {v : Value} {xs : List Value} (h : w.ownsRow base e sz v n xs) : ∃ A c, v = .slice A n c ∧ n ≤ c := by
  rcases h.2 with ⟨rfl, rfl⟩ | ⟨g, cap, cur, rfl, _, _, hc, _⟩
  · exact ⟨none, 0, rfl, Nat.le_refl _⟩
  · exact ⟨_, cap, rfl, hc⟩
theorem own_lt_any {w : World} {base e sz n : Nat} {v : Value} {xs : List Value} (h : w.ownsRow base e sz v n xs) {k : Nat} (hk : v.ownBlock = some k) : base ≤ k ∧ k < w.heap.size := h.lt k hk
theorem own_down {w : World} {base base' e sz n : Nat} {v : Value} {xs : List Value} (h : w.ownsRow base e sz v n xs) (hb : base' ≤ base) : w.ownsRow base' e sz v n xs := by
  obtain ⟨h1, h2⟩ := h
  refine ⟨h1, ?_⟩
  rcases h2 with h2 | ⟨g, cap, cur, hv, hg, r⟩
  · exact Or.inl h2
  · exact Or.inr ⟨g, cap, cur, hv, Nat.le_trans hb hg, r⟩
/-- a text in a row of the call's own. -/
def OwnX (w : World) (v : Value) (m : List Nat) : Prop := w.ownsRow 0 5 1 v m.length (u8s m)
theorem OwnX.kept {w w' : World} {v : Value} {m : List Nat} (h : OwnX w v m) (hk : ∀ k, v.ownBlock = some k → w'.heap[k]? = w.heap[k]?) : OwnX w' v m := own_keep h hk
theorem OwnX.tx {w : World} {v : Value} {m : List Nat} (h : OwnX w v m) : Tx w v m := by
  unfold OwnX at h
  obtain ⟨A, c, rfl, _⟩ := own_form h
  exact own_tx h
/-- rows s in the slice V; their blocks are F's and not G's; the rows' texts lie off the rows. -/
def Rws (w : World) (B e : Nat) (G : Nat → Prop) (V : Option Addr) (cV : Nat) (s : List Trow) (F : Nat → Prop) : Prop :=
  ∃ L : List (Trow × Value), L.map Prod.fst = s ∧ w.ownsRow B e 3 (.slice V s.length cV) s.length (rwsC L) ∧ (∀ k, (Value.slice V s.length cV).ownBlock = some k → F k ∧ ¬ G k) ∧
    ∀ x ∈ L, OwnX w x.2 x.1.2.1 ∧ ∀ k, x.2.ownBlock = some k → F k ∧ ¬ G k ∧ (Value.slice V s.length cV).ownBlock ≠ some k
section
variable {w w' : World} {B e : Nat} {G F : Nat → Prop} {V : Option Addr} {cV : Nat} {s : List Trow}
theorem Rws.kept (h : Rws w B e G V cV s F) (hk : ∀ k, F k → ¬ G k → w'.heap[k]? = w.heap[k]?) (hs : w.heap.size ≤ w'.heap.size) : Rws w' B e G V cV s F := by
  obtain ⟨L, h1, h2, h3, h4⟩ := h
  exact ⟨L, h1, own_keep h2 (fun k e => hk k (h3 k e).1 (h3 k e).2), h3, fun x hx => ⟨(h4 x hx).1.kept (fun k e => hk k ((h4 x hx).2 k e).1 ((h4 x hx).2 k e).2.1), (h4 x hx).2⟩⟩
theorem Rws.nil (w : World) (B e : Nat) (G F : Nat → Prop) : Rws w B e G none 0 [] F := ⟨[], rfl, ⟨rfl, .inl ⟨rfl, rfl⟩⟩, (fun k h => by cases h), (fun x hx => by cases hx)⟩
/-- a row's cells. -/
theorem Rws.get (h : Rws w B e G V cV s F) {i : Nat} {r : Trow} (hi : s[i]? = some r) :
    ∃ b D c, V = some ⟨b, 0, none⟩ ∧ b < w.heap.size ∧ (F b ∧ ¬ G b) ∧ w.cell? ⟨b, i * 3, none⟩ = some (.int .i64 r.1) ∧ w.cell? ⟨b, i * 3 + 1, none⟩ = some (.slice D r.2.1.length c) ∧ w.cell? ⟨b, i * 3 + 2, none⟩ = some (.int .u64 (r.2.2 : Nat)) ∧
      w.frozen? ⟨b, i * 3 + 2, none⟩ = false ∧ Rd w.heap.size w D (u8s r.2.1) ∧ ∀ k, (Value.slice D r.2.1.length c).ownBlock = some k → F k ∧ ¬ G k ∧ k ≠ b := by
  obtain ⟨L, rfl, h2, h3, h4⟩ := h
  rw [List.getElem?_map] at hi
  obtain ⟨x, hx, rfl⟩ := Option.map_eq_some_iff.1 hi
  have hil : i < L.length := (List.getElem?_eq_some_iff.1 hx).1
  obtain ⟨hox, hd⟩ := h4 x (List.mem_of_getElem? hx)
  obtain ⟨D, c, hv, hrd⟩ := hox.tx
  rcases h2.2 with ⟨hv2, h0⟩ | ⟨g, cap, cur, hv2, _⟩
  · simp at h0; subst h0; simp at hil
  · injection hv2 with hv2 _ _
    subst hv2
    have hcell : ∀ j v, (rwC x)[j]? = some v → w.cell? ⟨g, i * 3 + j, none⟩ = some v := fun j v hj => by
      have h5 := rwsC_get hx hj
      have h6 := (List.getElem?_eq_some_iff.1 h5).1
      have h7 := h2.cellAt (i * 3 + j) (by rw [← h2.1]; exact h6)
      rw [h7]; exact h5
    refine ⟨g, D, c, rfl, (h2.lt g rfl).2, h3 g rfl, ?_, ?_, ?_, ?_, hrd, fun k hk => ?_⟩
    · exact hcell 0 _ rfl
    · rw [← hv]; exact hcell 1 _ rfl
    · exact hcell 2 _ rfl
    · exact h2.frozenAt _
    · obtain ⟨a, b, d⟩ := hd k (by rw [hv]; exact hk)
      exact ⟨a, b, fun e => d (by rw [e]; rfl)⟩
/-- a row's text is in a row of the call's own. -/
theorem Rws.owned (h : Rws w B e G V cV s F) {i : Nat} {r : Trow} (hi : s[i]? = some r) {b c : Nat} {D : Option Addr} (hV : V = some ⟨b, 0, none⟩) (hc : w.cell? ⟨b, i * 3 + 1, none⟩ = some (.slice D r.2.1.length c)) : OwnX w (.slice D r.2.1.length c) r.2.1 := by
  obtain ⟨L, rfl, h2, h3, h4⟩ := h
  subst hV
  rw [List.getElem?_map] at hi
  obtain ⟨x, hx, rfl⟩ := Option.map_eq_some_iff.1 hi
  have h5 : (rwsC L)[i * 3 + 1]? = some x.2 := rwsC_get hx (j := 1) rfl
  have h6 := (List.getElem?_eq_some_iff.1 h5).1
  have h7 := h2.cellAt (i * 3 + 1) (by rw [← h2.1]; exact h6)
  rw [h5] at h7
  have e : x.2 = .slice D x.1.2.1.length c := Option.some.inj (h7.symm.trans hc)
  rw [← e]
  exact (h4 x (List.mem_of_getElem? hx)).1
/-- a row's count is another one. -/
theorem Rws.up (h : Rws w B e G V cV s F) {i : Nat} {r : Trow} (hi : s[i]? = some r) {b : Nat} (hV : V = some ⟨b, 0, none⟩) :
    Rws (w.setCell ⟨b, i * 3 + 2, none⟩ (.int .u64 ((r.2.2 + 1 : Nat) : Int))) B e G V cV (upT s i) F ∧ Turn F F w (w.setCell ⟨b, i * 3 + 2, none⟩ (.int .u64 ((r.2.2 + 1 : Nat) : Int))) := by
  obtain ⟨L, rfl, h2, h3, h4⟩ := h
  subst hV
  rw [List.getElem?_map] at hi
  obtain ⟨x, hx, rfl⟩ := Option.map_eq_some_iff.1 hi
  have hs : (w.setCell ⟨b, i * 3 + 2, none⟩ (.int .u64 ((x.1.2.2 + 1 : Nat) : Int))).heap.size = w.heap.size := by simp [World.setCell]
  have hb := h3 b rfl
  refine ⟨⟨L.set i ((x.1.1, x.1.2.1, x.1.2.2 + 1), x.2), ?_, ?_, ?_, ?_⟩, (Turn.refl F w).set hb.1 _ _⟩
  · apply List.ext_getElem?
    intro j
    rw [upT_get, List.getElem?_map, List.getElem?_map, List.getElem?_set]
    by_cases e : i = j
    · subst e
      obtain ⟨hil, hxe⟩ := List.getElem?_eq_some_iff.1 hx
      subst hxe
      simp [hil]
    · have : ¬ j = i := fun h => e h.symm
      cases L[j]? <;> simp [e, this]
  · have h5 := (h2.stored (i * 3 + 2) (.int .u64 ((x.1.2.2 + 1 : Nat) : Int))).1
    rw [rwsC_set hx] at h5
    rw [upT_len]
    exact h5
  · rw [upT_len]; exact h3
  · intro y hy
    rw [upT_len]
    have hfar : ∀ k, k ≠ b → (w.setCell ⟨b, i * 3 + 2, none⟩ (.int .u64 ((x.1.2.2 + 1 : Nat) : Int))).heap[k]? = w.heap[k]? := fun k hk => Below.heap_setCell w ⟨b, i * 3 + 2, none⟩ _ k hk
    have h6 : ∃ y0 ∈ L, y0.2 = y.2 ∧ y0.1.2.1 = y.1.2.1 := by
      rcases List.mem_or_eq_of_mem_set hy with hy | rfl
      · exact ⟨y, hy, rfl, rfl⟩
      · exact ⟨x, List.mem_of_getElem? hx, rfl, rfl⟩
    obtain ⟨y0, hy0, e1, e2⟩ := h6
    rw [← e1, ← e2]
    obtain ⟨t1, t2⟩ := h4 y0 hy0
    exact ⟨t1.kept (fun k hk => hfar k (fun e => (t2 k hk).2.2 (by rw [e]; rfl))), t2⟩
/-- a row has been pushed: its text in a new block, the rows in their old block or in a new one. -/
theorem Rws.push {L : List (Trow × Value)} {w1 w3 : World} {V' : Option Addr} {cV' : Nat} {r : Trow} {v : Value} (hL : L.map Prod.fst = s) (h2 : w.ownsRow B e 3 (.slice V s.length cV) s.length (rwsC L)) (h3 : ∀ k, (Value.slice V s.length cV).ownBlock = some k → F k ∧ ¬ G k)
    (h4 : ∀ x ∈ L, OwnX w x.2 x.1.2.1 ∧ ∀ k, x.2.ownBlock = some k → F k ∧ ¬ G k ∧ (Value.slice V s.length cV).ownBlock ≠ some k) (hF : Foot F B w) (hGF : ∀ k, G k → k < w.heap.size)
    (hb : Below w.heap.size w w1) (ht : w1.ownsRow w.heap.size 5 1 v r.2.1.length (u8s r.2.1)) (hrow : w3.ownsRow B e 3 (.slice V' (s.length + 1) cV') (s.length + 1) (rwsC L ++ rwC (r, v)))
    (hg : w1.grownBy w3 (Value.slice V s.length cV).ownBlock) (hat : (Value.slice V' (s.length + 1) cV').ownBlock = (Value.slice V s.length cV).ownBlock ∨ (Value.slice V' (s.length + 1) cV').ownBlock = some (w1.heap.size + 1)) :
    Rws w3 B e G V' cV' (s ++ [r]) (more F w w3) ∧ Turn F (more F w w3) w w3 := by
  have hs1 := hb.size
  have hs3 := hg.size
  have hVl : ∀ k, (Value.slice V s.length cV).ownBlock = some k → k < w.heap.size := fun k hk => (hF k (h3 k hk).1).2
  have hkeep : ∀ k, k < w.heap.size → (Value.slice V s.length cV).ownBlock ≠ some k → w3.heap[k]? = w.heap[k]? := fun k hk hn =>
    (hg.block k (by omega) (fun e => hn e.symm)).trans (hb.block k hk)
  have hlen : (s ++ [r]).length = s.length + 1 := by simp
  refine ⟨⟨L ++ [(r, v)], by simp [hL], ?_, ?_, ?_⟩, ?_⟩
  · rw [hlen, rwsC_app]; exact hrow
  · rw [hlen]
    intro k hk
    have hl := own_lt_any hrow hk
    rcases hat with e1 | e1
    · rw [e1] at hk; exact ⟨.inl (h3 k hk).1, (h3 k hk).2⟩
    · rw [e1] at hk; injection hk with hk; exact ⟨.inr ⟨by omega, by omega⟩, fun hgk => by have := hGF k hgk; omega⟩
  · rw [hlen]
    intro x hx
    rcases List.mem_append.1 hx with hx | hx
    · obtain ⟨t1, t2⟩ := h4 x hx
      refine ⟨t1.kept (fun k hk => hkeep k (hF k (t2 k hk).1).2 (t2 k hk).2.2), fun k hk => ?_⟩
      obtain ⟨a, b, c⟩ := t2 k hk
      refine ⟨.inl a, b, ?_⟩
      rcases hat with e1 | e1
      · rw [e1]; exact c
      · rw [e1]; intro e2; injection e2 with e2; have := (hF k a).2; omega
    · simp at hx; subst hx
      refine ⟨(show OwnX w1 v r.2.1 from own_down ht (Nat.zero_le _)).kept (fun k hk => ?_), fun k hk => ?_⟩
      · have := own_block_lt ht hk
        exact hg.block k this.2 (fun e => by have := hVl k e.symm; omega)
      · have := own_block_lt ht hk
        refine ⟨.inr ⟨by omega, by omega⟩, fun hgk => by have := hGF k hgk; omega, ?_⟩
        rcases hat with e1 | e1
        · rw [e1]; intro e2; have := hVl k e2; omega
        · rw [e1]; intro e2; injection e2 with e2; omega
  · refine ⟨hg.os.trans hb.os, hg.tape.trans hb.tape, hg.output.trans hb.output, by omega, fun k hk hn => hkeep k hk (fun e => hn (h3 k e).1), fun k hk => hk.elim .inl (fun h => .inr h.1)⟩
end
/-! ### append of a struct of three cells -/
theorem cell_three_new (w : World) (u0 u1 u2 : Value) (e : Nat) : ∀ j u, ([u0, u1, u2] : List Value)[j]? = some u → (w.alloc (.cells #[u0, u1, u2] e)).cell? ((⟨w.heap.size, 0, none⟩ : Addr).add j) = some u := fun j u hj => by
  rw [addr_add, Nat.zero_add]
  exact (Blk.new w e [u0, u1, u2]).cell hj
section
variable {P : Program} {ops : Array Oper} {rest : List Oper} {o : Oper} {a : Act} {Q : Exit → Act → World → Prop}
theorem run_app3 (w : World) (t ty : TypeId) (base e : Nat) (i : TypeInfo) (z : Value) (bytes : Nat) (ht : P.underlying t = some (.slice e)) (hi : P.info? e = some i) (hz : i.zero = some z)
    (hsize : i.size = 3) (hby : i.bytes = bytes) (hzs : z.cells.size = 3) (v : Value) (n : Nat) (xs : List Value) (hown : w.ownsRow base e 3 v n xs) (u0 u1 u2 : Value) (hu0 : u0.oneCell' = true) (hu1 : u1.oneCell' = true) (hu2 : u2.oneCell' = true)
    (h63 : n + 1 ≤ 9223372036854775807) (hb : (n + 1) * bytes ≤ 140737488355328) (hbase : base ≤ w.heap.size) :
    ∃ v' w', (Builtin.append_ #[t, t] ty #[v, .slice (some ⟨w.heap.size, 0, none⟩) 1 1]).run P (w.alloc (.cells #[u0, u1, u2] e)) = .ok v' w' ∧ w'.ownsRow base e 3 v' (n + 1) (xs ++ [u0, u1, u2]) ∧ w.grownBy w' v.ownBlock ∧
      (v'.ownBlock = v.ownBlock ∨ v'.ownBlock = some (w.heap.size + 1)) := by
  obtain ⟨v', w', hrun, h2, h3, _, h5⟩ := run_append_own_at (P := P) (w.alloc (.cells #[u0, u1, u2] e)) base t ty e i z 3 bytes ht hi hz hsize hby hzs (by decide) v n xs (hown.alloc _) ⟨w.heap.size, 0, none⟩ 1 1 [u0, u1, u2] rfl
    (cell_three_new w u0 u1 u2 e) (by intro y hy; simp at hy; rcases hy with rfl | rfl | rfl <;> assumption) (by unfold maxLen; exact h63) hb (by simp; omega)
  refine ⟨v', w', hrun, h2, (World.grownBy_alloc w _ _).trans h3, ?_⟩
  simpa using h5
theorem wpList_app3 (w : World) (hgd : o.guard = none) (s x : Operand) (t : TypeId)
    (ho : o.op = .call { callee := .builtin .append, args := #[s, x], argTypes := #[t, t] })
    (base e : Nat) (i : TypeInfo) (z : Value) (bytes : Nat) (ht : P.underlying t = some (.slice e)) (hi : P.info? e = some i) (hz : i.zero = some z)
    (hsize : i.size = 3) (hby : i.bytes = bytes) (hzs : z.cells.size = 3) (v : Value) (n : Nat) (xs : List Value) (hs : a.eval s = v) (hown : w.ownsRow base e 3 v n xs) (u0 u1 u2 : Value) (hu0 : u0.oneCell' = true) (hu1 : u1.oneCell' = true) (hu2 : u2.oneCell' = true)
    (hx : a.eval x = .slice (some ⟨w.heap.size, 0, none⟩) 1 1)
    (h63 : n + 1 ≤ 9223372036854775807) (hb : (n + 1) * bytes ≤ 140737488355328) (hbase : base ≤ w.heap.size)
    (h : ∀ v' w', w'.ownsRow base e 3 v' (n + 1) (xs ++ [u0, u1, u2]) → w.grownBy w' v.ownBlock → (v'.ownBlock = v.ownBlock ∨ v'.ownBlock = some (w.heap.size + 1)) → wpList P ops Q rest (a.put o.dst v') w') :
    wpList P ops Q (o :: rest) a (w.alloc (.cells #[u0, u1, u2] e)) := by
  obtain ⟨v', w', hrun, h2, h3, h5⟩ := run_app3 (P := P) w t o.type base e i z bytes ht hi hz hsize hby hzs v n xs hown u0 u1 u2 hu0 hu1 hu2 h63 hb hbase
  refine wpList_plain hgd fun K hK => ?_
  unfold Oper.wp execOp
  simp only [ho, resolve, invoke, builtin, Sem.run_bind, Sem.run_pure, Result.andThen_ok, List.map_toArray, List.map_cons, List.map_nil, hs, hx, hrun]
  exact hK _ _ (h v' w' h2 h3 h5)
theorem step_app3 {E : Prop} {K : Act → World → Prop} (w : World) (hgd : o.guard = none) (s x : Operand) (t : TypeId)
    (ho : o.op = .call { callee := .builtin .append, args := #[s, x], argTypes := #[t, t] })
    (base e : Nat) (i : TypeInfo) (z : Value) (bytes : Nat) (ht : P.underlying t = some (.slice e)) (hi : P.info? e = some i) (hz : i.zero = some z)
    (hsize : i.size = 3) (hby : i.bytes = bytes) (hzs : z.cells.size = 3) (v : Value) (n : Nat) (xs : List Value) (hs : a.eval s = v) (hown : w.ownsRow base e 3 v n xs) (u0 u1 u2 : Value) (hu0 : u0.oneCell' = true) (hu1 : u1.oneCell' = true) (hu2 : u2.oneCell' = true)
    (hx : a.eval x = .slice (some ⟨w.heap.size, 0, none⟩) 1 1)
    (h63 : n + 1 ≤ 9223372036854775807) (hb : (n + 1) * bytes ≤ 140737488355328) (hbase : base ≤ w.heap.size)
    (h : ∀ v' w', w'.ownsRow base e 3 v' (n + 1) (xs ++ [u0, u1, u2]) → w.grownBy w' v.ownBlock → (v'.ownBlock = v.ownBlock ∨ v'.ownBlock = some (w.heap.size + 1)) → K (a.put o.dst v') w') :
    if Region.wanted o (yielded ops a.tmps) = true then Oper.wp P o a (w.alloc (.cells #[u0, u1, u2] e)) K Q else E := by
  have hw : Region.wanted o (yielded ops a.tmps) = true := by simp [Region.wanted, hgd]
  rw [if_pos hw]
  obtain ⟨v', w', hrun, h2, h3, h5⟩ := run_app3 (P := P) w t o.type base e i z bytes ht hi hz hsize hby hzs v n xs hown u0 u1 u2 hu0 hu1 hu2 h63 hb hbase
  unfold Oper.wp execOp
  simp only [ho, resolve, invoke, builtin, Sem.run_bind, Sem.run_pure, Result.andThen_ok, List.map_toArray, List.map_cons, List.map_nil, hs, hx, hrun]
  exact h v' w' h2 h3 h5
end
end Go.Proofs.Ytnbhgeodbpelgaa
