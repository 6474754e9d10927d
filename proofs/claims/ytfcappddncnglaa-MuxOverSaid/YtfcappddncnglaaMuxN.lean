/- Layer 40: what MuxOver's walk holds: two muxes, two shelves of texts, all apart. No conditions. -/
import Derived.Test.YtfcappddncnglaaMuxI
import Derived.Test.YtfcappddncnglaaQueN
import Derived.Test.YtfcappddncnglaaQueJ
import Derived.Test.YtfcappddncnglaaInM2
namespace Go.Proofs.Ytfcappddncnglaa
open Go.RowKit
set_option linter.unusedVariables false

def eight (V : Nat → Value) : List Value := [V 0, V 1, V 2, V 3, V 4, V 5, V 6, V 7]
theorem eight_at (V : Nat → Value) {p : Nat} (h : p < 8) : (eight V)[p]? = some (V p) := by
  rcases lt8 h with rfl | rfl | rfl | rfl | rfl | rfl | rfl | rfl <;> rfl
theorem eight_set (V : Nat → Value) (v : Value) {p : Nat} (h : p < 8) : (eight V).set p v = eight (fun i => if i = p then v else V i) := by
  rcases lt8 h with rfl | rfl | rfl | rfl | rfl | rfl | rfl | rfl <;> rfl
/-- eight rows of texts, in block gS. -/
structure Shelf (w : World) (B gS : Nat) (T : Nat → List (List Nat)) (V : Nat → Value) (vs : Nat → List Value) (F : Nat → Prop) : Prop where
  foot : Foot F B w
  own : F gS
  blk : Blk w gS 43 (eight V)
  row : ∀ p, p < 8 → w.ownsRow (gS + 1) 33 1 (V p) (T p).length (vs p)
  rown : ∀ p, p < 8 → ∀ k, (V p).ownBlock = some k → F k
  roff : ∀ p q, p < 8 → q < 8 → p ≠ q → ∀ k, (V p).ownBlock = some k → (V q).ownBlock ≠ some k
def updL (f : Nat → List Value) (p : Nat) (q : List Value) (i : Nat) : List Value := if i = p then q else f i
theorem Shelf.kept {w w' : World} {B gS : Nat} {T : Nat → List (List Nat)} {V : Nat → Value} {vs : Nat → List Value} {F : Nat → Prop} (h : Shelf w B gS T V vs F) (hk : ∀ k, F k → w'.heap[k]? = w.heap[k]?) (hs : w.heap.size ≤ w'.heap.size) : Shelf w' B gS T V vs F :=
  ⟨h.foot.on hs, h.own, h.blk.kept (hk gS h.own), fun p hp => own_keep (h.row p hp) fun k e => hk k (h.rown p hp k e), h.rown, h.roff⟩
theorem Shelf.push {w w2 : World} {B gS p : Nat} {T : Nat → List (List Nat)} {V : Nat → Value} {vs : Nat → List Value} {F : Nat → Prop} {v V' : Value} {m : List Nat} (h : Shelf w B gS T V vs F) (hp : p < 8)
    (hown : w2.ownsRow (gS + 1) 33 1 V' ((T p).length + 1) (vs p ++ [v])) (hg : w.grownBy w2 (V p).ownBlock) (hat : V'.ownBlock = (V p).ownBlock ∨ V'.ownBlock = some (w.heap.size + 1)) :
    let w3 := w2.setCell ⟨gS, p, none⟩ V'
    Shelf w3 B gS (upd T p (T p ++ [m])) (fun i => if i = p then V' else V i) (updL vs p (vs p ++ [v])) (more F w w3) ∧ Turn F (more F w w3) w w3 := by
  intro w3
  have hs : w3.heap.size = w2.heap.size := by simp [w3, World.setCell]
  have hgS := h.foot gS h.own
  have hgs := hg.size
  have hVl : ∀ q, q < 8 → ∀ k, (V q).ownBlock = some k → gS < k ∧ k < w.heap.size := fun q hq k e => own_block_lt (h.row q hq) e
  have hfar : ∀ k, k ≠ gS → w3.heap[k]? = w2.heap[k]? := fun k hk => Below.heap_setCell w2 ⟨gS, p, none⟩ _ k hk
  have hV' : ∀ k, V'.ownBlock = some k → gS < k ∧ k < w2.heap.size := fun k e => own_block_lt hown e
  have hV'k : ∀ k, V'.ownBlock = some k → more F w w3 k := fun k e => by
    have := hV' k e
    rcases hat with a | a
    · rw [a] at e; exact .inl (h.rown p hp k e)
    · rw [a] at e; injection e with e; exact .inr ⟨by omega, by omega⟩
  have hnq : ∀ q, q < 8 → q ≠ p → ∀ k, (V q).ownBlock = some k → V'.ownBlock ≠ some k := fun q hq hne k e => by
    rcases hat with a | a
    · rw [a]; exact h.roff q p hq hp hne k e
    · rw [a]; intro e2; injection e2 with e2; have := (hVl q hq k e).2; omega
  refine ⟨⟨?_, .inl h.own, ?_, ?_, ?_, ?_⟩, ?_⟩
  · rintro k (hk | hk)
    · have := h.foot k hk; omega
    · omega
  · have hb2 : Blk w2 gS _ _ := h.blk.grown hg (fun e => by have := (hVl p hp gS e.symm).1; omega)
    have := hb2.set p V'
    rw [eight_set V V' hp] at this
    exact this
  · intro q hq
    by_cases e : q = p
    · subst e
      simp only [if_true, updL, upd, List.length_append, List.length_singleton]
      exact own_keep hown fun k hk => hfar k (by have := (hV' k hk).1; omega)
    · simp only [if_neg e, updL, upd]
      exact own_keep (h.row q hq) fun k hk => (hfar k (by have := (hVl q hq k hk).1; omega)).trans (hg.block k (hVl q hq k hk).2 (fun e2 => h.roff q p hq hp e k hk e2.symm))
  · intro q hq k hk
    by_cases e : q = p
    · simp only [if_pos e] at hk; exact hV'k k hk
    · simp only [if_neg e] at hk; exact .inl (h.rown q hq k hk)
  · intro q r hq hr hne k h1
    by_cases e1 : q = p
    · simp only [if_pos e1] at h1
      have e2 : r ≠ p := fun e2 => hne (e1.trans e2.symm)
      simp only [if_neg e2]
      exact fun h2 => hnq r hr e2 k h2 h1
    · simp only [if_neg e1] at h1
      by_cases e2 : r = p
      · simp only [if_pos e2]; exact hnq q hq e1 k h1
      · simp only [if_neg e2]; exact h.roff q r hq hr hne k h1
  · refine ⟨hg.os, hg.tape, hg.output, by omega, fun k hk hn => ?_, fun k hk => hk.elim .inl (fun h => .inr h.1)⟩
    exact (hfar k (fun e => hn (e ▸ h.own))).trans (hg.block k hk (fun e => hn (h.rown p hp k e.symm)))
def GoodQ (Q : Nat → List (List Nat)) : Prop := ∀ i, i < 8 → ∀ m ∈ Q i, m.length ≤ 63 ∧ Byt m
/-- all that MuxOver's walk holds: two muxes, two shelves, a text that was popped; each part has a colour. -/
def Over (w0 w : World) (gx gy gi go nx : Nat) (X Y I O : Nat → List (List Nat)) (pv : Value) (pm : List Nat) : Prop :=
  ∃ (ny : Nat) (FX FY FI FO : Nat → Prop) (VI VO : Nat → Value) (vi vo : Nat → List Value) (col : Nat → Nat),
    (Mx w w0.heap.size gx 16 X nx FX ∧ Mx w w0.heap.size gy 16 Y ny FY ∧ Shelf w w0.heap.size gi I VI vi FI ∧ Shelf w w0.heap.size go O VO vo FO) ∧
    ((∀ k, FX k → col k = 1) ∧ (∀ k, FY k → col k = 2) ∧ (∀ k, FI k → col k = 3) ∧ (∀ k, FO k → col k = 4)) ∧
    (∀ p, p < 8 → ∀ v ∈ vo p, ∀ k, v.ownBlock = some k → k < w.heap.size ∧ col k = 5) ∧
    (∀ p, p < 8 → Txs w0 (vi p) (I p)) ∧ (∀ p, p < 8 → Txs w (vo p) (O p)) ∧ (Tx w pv pm ∧ ∀ k, pv.ownBlock = some k → k < w.heap.size ∧ col k = 5) ∧ Below w0.heap.size w0 w
section
variable {w0 w w2 : World} {gx gy gi go nx : Nat} {X X' Y Y' I O : Nat → List (List Nat)} {pv : Value} {pm : List Nat}
/-- a part that has turned, by its colour: the other parts are as they were. -/
theorem col_new {F F' : Nat → Prop} {col : Nat → Nat} {c : Nat} (ht : Turn F F' w w2) (hc : ∀ k, F k → col k = c) {B : Nat} (hf : Foot F B w) : ∀ k, F' k → (if k < w.heap.size then col k else c) = c := by
  intro k hk
  rcases ht.new k hk with h | h
  · rw [if_pos (hf k h).2]; exact hc k h
  · rw [if_neg (by omega)]
theorem col_old {F F' G : Nat → Prop} {col : Nat → Nat} {c d : Nat} (ht : Turn F F' w w2) (hc : ∀ k, F k → col k = c) (hd : ∀ k, G k → col k = d) (hne : c ≠ d) {B : Nat} (hg : Foot G B w) :
    (∀ k, G k → w2.heap[k]? = w.heap[k]?) ∧ ∀ e k, G k → (if k < w.heap.size then col k else e) = d :=
  ⟨fun k hk => ht.block k (hg k hk).2 (fun hf => hne ((hc k hf).symm.trans (hd k hk))), fun e k hk => by rw [if_pos (hg k hk).2]; exact hd k hk⟩
/-- .. and the texts told. -/
theorem col_txs {F F' : Nat → Prop} {col : Nat → Nat} {c : Nat} (ht : Turn F F' w w2) (hc : ∀ k, F k → col k = c) (hne : c ≠ 5) {vo : Nat → List Value} (hd : ∀ p, p < 8 → ∀ v ∈ vo p, ∀ k, v.ownBlock = some k → k < w.heap.size ∧ col k = 5) (hto : ∀ p, p < 8 → Txs w (vo p) (O p)) :
    (∀ p, p < 8 → Txs w2 (vo p) (O p)) ∧ ∀ e, ∀ p, p < 8 → ∀ v ∈ vo p, ∀ k, v.ownBlock = some k → k < w2.heap.size ∧ (if k < w.heap.size then col k else e) = 5 :=
  ⟨fun p hp => (hto p hp).kept (fun u hu k hk => ht.block k (hd p hp u hu k hk).1 (fun hf => hne ((hc k hf).symm.trans (hd p hp u hu k hk).2))) ht.size,
   fun e p hp v hv k hk => by
    have := hd p hp v hv k hk
    rw [if_pos this.1]
    exact ⟨Nat.lt_of_lt_of_le this.1 ht.size, this.2⟩⟩
theorem col_tx {F F' : Nat → Prop} {col : Nat → Nat} {c : Nat} (ht : Turn F F' w w2) (hc : ∀ k, F k → col k = c) (hne : c ≠ 5) (h : Tx w pv pm ∧ ∀ k, pv.ownBlock = some k → k < w.heap.size ∧ col k = 5) :
    ∀ e, Tx w2 pv pm ∧ ∀ k, pv.ownBlock = some k → k < w2.heap.size ∧ (if k < w.heap.size then col k else e) = 5 := fun e =>
  ⟨h.1.kept (fun k hk => ht.block k (h.2 k hk).1 (fun hf => hne ((hc k hf).symm.trans (h.2 k hk).2))) ht.size, fun k hk => by
    have := h.2 k hk
    rw [if_pos this.1]
    exact ⟨Nat.lt_of_lt_of_le this.1 ht.size, this.2⟩⟩
theorem over_push (h : Over w0 w gx gy gi go nx X Y I O pv pm) (p : Int) (A : Option Addr) (c : Nat) (m : List Nat) (hA : Rd w.heap.size w A (u8s m)) :
    Calls Try.prog 35 #[.pointer (some ⟨gx, 0, none⟩), .int .i64 p, .slice A m.length c] w fun e w' => e = .returned (.int .i64 (mpushE 16 X p m : Nat)) ∧ Over w0 w' gx gy gi go nx (mpushL 16 X p m) Y I O pv pm := by
  obtain ⟨ny, FX, FY, FI, FO, VI, VO, vi, vo, col, ⟨hx, hy, hi, ho⟩, ⟨cx, cy, ci, co⟩, hd, hti, hto, hp, hb⟩ := h
  refine (mux_push hx p A c m hA).mono ?_
  rintro e w' ⟨F', he, hm, ht⟩
  refine ⟨he, ny, F', FY, FI, FO, VI, VO, vi, vo, fun k => if k < w.heap.size then col k else 1, ⟨hm, hy.kept (col_old ht cx cy (by omega) hy.foot).1 ht.size, hi.kept (col_old ht cx ci (by omega) hi.foot).1 ht.size, ho.kept (col_old ht cx co (by omega) ho.foot).1 ht.size⟩,
    ⟨col_new ht cx hx.foot, (col_old ht cx cy (by omega) hy.foot).2 1, (col_old ht cx ci (by omega) hi.foot).2 1, (col_old ht cx co (by omega) ho.foot).2 1⟩, (col_txs ht cx (by omega) hd hto).2 1, hti, (col_txs ht cx (by omega) hd hto).1, col_tx ht cx (by omega) hp 1, ht.below hb hx.foot hb.size⟩
theorem over_next0 (h : Over w0 w gx gy gi go nx X Y I O pv pm) (hsm : SmallQ X) (hno : nextOf X nx = none) :
    Calls Try.prog 37 #[.pointer (some ⟨gx, 0, none⟩)] w fun e w' => ∃ A c, e = .returned (.tuple #[.slice A 0 c, .bool false]) ∧ Over w0 w' gx gy gi go nx X Y I O pv pm := by
  obtain ⟨ny, FX, FY, FI, FO, VI, VO, vi, vo, col, ⟨hx, hy, hi, ho⟩, ⟨cx, cy, ci, co⟩, hd, hti, hto, hp, hb⟩ := h
  refine (mux_next0 hx hsm hno).mono ?_
  rintro e w' ⟨A, c, he, hm, ht⟩
  refine ⟨A, c, he, ny, FX, FY, FI, FO, VI, VO, vi, vo, fun k => if k < w.heap.size then col k else 1, ⟨hm, hy.kept (col_old ht cx cy (by omega) hy.foot).1 ht.size, hi.kept (col_old ht cx ci (by omega) hi.foot).1 ht.size, ho.kept (col_old ht cx co (by omega) ho.foot).1 ht.size⟩,
    ⟨col_new ht cx hx.foot, (col_old ht cx cy (by omega) hy.foot).2 1, (col_old ht cx ci (by omega) hi.foot).2 1, (col_old ht cx co (by omega) ho.foot).2 1⟩, (col_txs ht cx (by omega) hd hto).2 1, hti, (col_txs ht cx (by omega) hd hto).1, col_tx ht cx (by omega) hp 1, ht.below hb hx.foot hb.size⟩
theorem over_next1 (h : Over w0 w gx gy gi go nx X Y I O pv pm) (hsm : SmallQ X) {p : Nat} {m : List Nat} {ms : List (List Nat)} (hno : nextOf X nx = some p) (hX : X p = m :: ms) :
    Calls Try.prog 37 #[.pointer (some ⟨gx, 0, none⟩)] w fun e w' => ∃ A c, e = .returned (.tuple #[.slice A (m.length + 1) c, .bool true]) ∧ m.length + 1 ≤ c ∧ Rd w'.heap.size w' A (u8s (p :: m)) ∧ Over w0 w' gx gy gi go ((p + 1) % 8) (upd X p ms) Y I O pv pm := by
  obtain ⟨ny, FX, FY, FI, FO, VI, VO, vi, vo, col, ⟨hx, hy, hi, ho⟩, ⟨cx, cy, ci, co⟩, hd, hti, hto, hp, hb⟩ := h
  refine (mux_next hx hsm).mono ?_
  rintro e w' ⟨A, c, he, hrow, hm, ht⟩
  have e1 : tellF X nx = p :: m := by unfold tellF; rw [hno]; show p :: (X p).headD [] = _; rw [hX]; rfl
  have e2 : tellQ X nx = upd X p ms := by unfold tellQ; rw [hno]; show upd X p (X p).tail = _; rw [hX]; rfl
  have e3 : tellN X nx = (p + 1) % 8 := by unfold tellN; rw [hno]
  rw [e1] at he hrow
  rw [hno] at he
  rw [e2, e3] at hm
  have hcap : m.length + 1 ≤ c := by obtain ⟨_, _, e4, hc⟩ := own_val hrow; injection e4 with _ _ e4; simp at hc; omega
  refine ⟨A, c, he, hcap, own_rd hrow, ny, FX, FY, FI, FO, VI, VO, vi, vo, fun k => if k < w.heap.size then col k else 1, ⟨hm, hy.kept (col_old ht cx cy (by omega) hy.foot).1 ht.size, hi.kept (col_old ht cx ci (by omega) hi.foot).1 ht.size, ho.kept (col_old ht cx co (by omega) ho.foot).1 ht.size⟩,
    ⟨col_new ht cx hx.foot, (col_old ht cx cy (by omega) hy.foot).2 1, (col_old ht cx ci (by omega) hi.foot).2 1, (col_old ht cx co (by omega) ho.foot).2 1⟩, (col_txs ht cx (by omega) hd hto).2 1, hti, (col_txs ht cx (by omega) hd hto).1, col_tx ht cx (by omega) hp 1, ht.below hb hx.foot hb.size⟩
theorem over_take (h : Over w0 w gx gy gi go nx X Y I O pv pm) (A : Option Addr) (c : Nat) (l : List Nat) (hcap : l.length ≤ c) (hl : l.length ≤ 140737488355328) (hby : Byt l) (hA : Rd w.heap.size w A (u8s l)) :
    Calls Try.prog 45 #[.pointer (some ⟨gy, 0, none⟩), .slice A l.length c] w fun e w' => e = .returned (.int .i64 (takeE 16 Y l : Nat)) ∧ Over w0 w' gx gy gi go nx X (takeQ 16 Y l) I O pv pm := by
  obtain ⟨ny, FX, FY, FI, FO, VI, VO, vi, vo, col, ⟨hx, hy, hi, ho⟩, ⟨cx, cy, ci, co⟩, hd, hti, hto, hp, hb⟩ := h
  refine (mux_take hy A c l hcap hl hby hA).mono ?_
  rintro e w' ⟨F', he, hm, ht⟩
  refine ⟨he, ny, FX, F', FI, FO, VI, VO, vi, vo, fun k => if k < w.heap.size then col k else 2, ⟨hx.kept (col_old ht cy cx (by omega) hx.foot).1 ht.size, hm, hi.kept (col_old ht cy ci (by omega) hi.foot).1 ht.size, ho.kept (col_old ht cy co (by omega) ho.foot).1 ht.size⟩,
    ⟨(col_old ht cy cx (by omega) hx.foot).2 2, col_new ht cy hy.foot, (col_old ht cy ci (by omega) hi.foot).2 2, (col_old ht cy co (by omega) ho.foot).2 2⟩, (col_txs ht cy (by omega) hd hto).2 2, hti, (col_txs ht cy (by omega) hd hto).1, col_tx ht cy (by omega) hp 2, ht.below hb hy.foot hb.size⟩
theorem over_pop (h : Over w0 w gx gy gi go nx X Y I O pv pm) (p : Int) :
    Calls Try.prog 47 #[.pointer (some ⟨gy, 0, none⟩), .int .i64 p] w fun e w' => ∃ A c, e = .returned (.tuple #[.slice A (mpopF Y p).length c, .bool (mpopB Y p)]) ∧ Over w0 w' gx gy gi go nx X (mpopQ Y p) I O (.slice A (mpopF Y p).length c) (mpopF Y p) := by
  obtain ⟨ny, FX, FY, FI, FO, VI, VO, vi, vo, col, ⟨hx, hy, hi, ho⟩, ⟨cx, cy, ci, co⟩, hd, hti, hto, hp, hb⟩ := h
  refine (mux_pop hy p).mono ?_
  rintro e w' ⟨A, c, he, hrow, hm, ht⟩
  refine ⟨A, c, he, ny, FX, FY, FI, FO, VI, VO, vi, vo, fun k => if k < w.heap.size then col k else 5, ⟨hx.kept (col_old ht cy cx (by omega) hx.foot).1 ht.size, hm, hi.kept (col_old ht cy ci (by omega) hi.foot).1 ht.size, ho.kept (col_old ht cy co (by omega) ho.foot).1 ht.size⟩,
    ⟨(col_old ht cy cx (by omega) hx.foot).2 5, fun k hk => by show (if k < w.heap.size then col k else 5) = 2; rw [if_pos (hy.foot k hk).2]; exact cy k hk, (col_old ht cy ci (by omega) hi.foot).2 5, (col_old ht cy co (by omega) ho.foot).2 5⟩, (col_txs ht cy (by omega) hd hto).2 5, hti, (col_txs ht cy (by omega) hd hto).1, ⟨own_tx hrow, fun k hk => ?_⟩, ht.below hb hy.foot hb.size⟩
  have := own_block_lt hrow hk
  exact ⟨this.2, by show (if k < w.heap.size then col k else 5) = 5; rw [if_neg (by omega)]⟩
theorem Over.drewN (h : Over w0 w gx gy gi go nx X Y I O pv pm) (n : Nat) : Over w0 (w.drewN n) gx gy gi go nx X Y I O pv pm := by
  obtain ⟨ny, FX, FY, FI, FO, VI, VO, vi, vo, col, ⟨hx, hy, hi, ho⟩, hc, hd, hti, hto, hp, hb⟩ := h
  have hs : w.heap.size ≤ (w.drewN n).heap.size := Nat.le_refl _
  exact ⟨ny, FX, FY, FI, FO, VI, VO, vi, vo, col, ⟨hx.kept (fun _ _ => rfl) hs, hy.kept (fun _ _ => rfl) hs, hi.kept (fun _ _ => rfl) hs, ho.kept (fun _ _ => rfl) hs⟩, hc, hd, hti, fun p hp => (hto p hp).kept (fun _ _ _ _ => rfl) hs, ⟨hp.1.kept (fun _ _ => rfl) hs, hp.2⟩, below_drewN hb n⟩
/-- what lies at a place of the first shelf, and what an append there makes. -/
theorem over_I (h : Over w0 w gx gy gi go nx X Y I O pv pm) {p : Nat} (hp8 : p < 8) : ∃ A c vs, w.cell? ⟨gi, p, none⟩ = some (.slice A (I p).length c) ∧ w.ownsRow (gi + 1) 33 1 (.slice A (I p).length c) (I p).length vs ∧ gi < w.heap.size ∧ (∀ w2, w.grownBy w2 (Value.slice A (I p).length c).ownBlock → w2.cell? ⟨gi, p, none⟩ = some (.slice A (I p).length c) ∧ w2.frozen? ⟨gi, p, none⟩ = false) ∧
    ∀ v m w2 V', Tx w0 v m → w2.ownsRow (gi + 1) 33 1 V' ((I p).length + 1) (vs ++ [v]) → w.grownBy w2 (Value.slice A (I p).length c).ownBlock → (V'.ownBlock = (Value.slice A (I p).length c).ownBlock ∨ V'.ownBlock = some (w.heap.size + 1)) → Over w0 (w2.setCell ⟨gi, p, none⟩ V') gx gy gi go nx X Y (upd I p (I p ++ [m])) O pv pm := by
  obtain ⟨ny, FX, FY, FI, FO, VI, VO, vi, vo, col, ⟨hx, hy, hi, ho⟩, ⟨cx, cy, ci, co⟩, hd, hti, hto, hp, hb⟩ := h
  obtain ⟨A, c, eV, _⟩ := own_val (hi.row p hp8)
  refine ⟨A, c, vi p, eV ▸ hi.blk.cell (eight_at VI hp8), eV ▸ hi.row p hp8, (hi.foot gi hi.own).2, fun w2 hg => ?_, fun v m w2 V' htx hown hg hat => ?_⟩
  · have hb2 := hi.blk.grown hg (fun e => by have := (own_block_lt (eV ▸ hi.row p hp8) e.symm).1; omega)
    exact ⟨eV ▸ hb2.cell (eight_at VI hp8), hb2.free p⟩
  · obtain ⟨hs2, ht⟩ := hi.push (m := m) hp8 hown (eV ▸ hg) (by rw [eV]; exact hat)
    refine ⟨ny, FX, FY, _, FO, _, VO, _, vo, fun k => if k < w.heap.size then col k else 3, ⟨hx.kept (col_old ht ci cx (by omega) hx.foot).1 ht.size, hy.kept (col_old ht ci cy (by omega) hy.foot).1 ht.size, hs2, ho.kept (col_old ht ci co (by omega) ho.foot).1 ht.size⟩,
      ⟨(col_old ht ci cx (by omega) hx.foot).2 3, (col_old ht ci cy (by omega) hy.foot).2 3, col_new ht ci hi.foot, (col_old ht ci co (by omega) ho.foot).2 3⟩, (col_txs ht ci (by omega) hd hto).2 3, fun q hq => ?_, (col_txs ht ci (by omega) hd hto).1, col_tx ht ci (by omega) hp 3, ht.below hb hi.foot hb.size⟩
    by_cases e : q = p
    · subst e; simp only [updL, upd, if_true]; exact (hti q hq).snoc htx
    · simp only [updL, upd, if_neg e]; exact hti q hq
theorem over_O (h : Over w0 w gx gy gi go nx X Y I O pv pm) {p : Nat} (hp8 : p < 8) : ∃ A c vs, w.cell? ⟨go, p, none⟩ = some (.slice A (O p).length c) ∧ w.ownsRow (go + 1) 33 1 (.slice A (O p).length c) (O p).length vs ∧ go < w.heap.size ∧ (∀ w2, w.grownBy w2 (Value.slice A (O p).length c).ownBlock → w2.cell? ⟨go, p, none⟩ = some (.slice A (O p).length c) ∧ w2.frozen? ⟨go, p, none⟩ = false) ∧
    ∀ w2 V', w2.ownsRow (go + 1) 33 1 V' ((O p).length + 1) (vs ++ [pv]) → w.grownBy w2 (Value.slice A (O p).length c).ownBlock → (V'.ownBlock = (Value.slice A (O p).length c).ownBlock ∨ V'.ownBlock = some (w.heap.size + 1)) → Over w0 (w2.setCell ⟨go, p, none⟩ V') gx gy gi go nx X Y I (upd O p (O p ++ [pm])) (.slice none 0 0) [] := by
  obtain ⟨ny, FX, FY, FI, FO, VI, VO, vi, vo, col, ⟨hx, hy, hi, ho⟩, ⟨cx, cy, ci, co⟩, hd, hti, hto, hp, hb⟩ := h
  obtain ⟨A, c, eV, _⟩ := own_val (ho.row p hp8)
  refine ⟨A, c, vo p, eV ▸ ho.blk.cell (eight_at VO hp8), eV ▸ ho.row p hp8, (ho.foot go ho.own).2, fun w2 hg => ?_, fun w2 V' hown hg hat => ?_⟩
  · have hb2 := ho.blk.grown hg (fun e => by have := (own_block_lt (eV ▸ ho.row p hp8) e.symm).1; omega)
    exact ⟨eV ▸ hb2.cell (eight_at VO hp8), hb2.free p⟩
  · obtain ⟨hs2, ht⟩ := ho.push (m := pm) hp8 hown (eV ▸ hg) (by rw [eV]; exact hat)
    have hd2 := (col_txs ht co (by omega) hd hto)
    have hp2 := col_tx ht co (by omega) hp 4
    refine ⟨ny, FX, FY, FI, _, VI, _, vi, _, fun k => if k < w.heap.size then col k else 4, ⟨hx.kept (col_old ht co cx (by omega) hx.foot).1 ht.size, hy.kept (col_old ht co cy (by omega) hy.foot).1 ht.size, hi.kept (col_old ht co ci (by omega) hi.foot).1 ht.size, hs2⟩,
      ⟨(col_old ht co cx (by omega) hx.foot).2 4, (col_old ht co cy (by omega) hy.foot).2 4, (col_old ht co ci (by omega) hi.foot).2 4, col_new ht co ho.foot⟩, fun q hq v hv k hk => ?_, hti, fun q hq => ?_, ⟨⟨none, 0, rfl, Rd.nil _ _ _⟩, fun k hk => by cases hk⟩, ht.below hb ho.foot hb.size⟩
    · by_cases e : q = p
      · subst e
        simp only [updL, if_true] at hv
        rcases List.mem_append.1 hv with hv | hv
        · exact hd2.2 4 q hq v hv k hk
        · simp at hv; subst hv; exact hp2.2 k hk
      · simp only [updL, if_neg e] at hv; exact hd2.2 4 q hq v hv k hk
    · by_cases e : q = p
      · subst e; simp only [updL, upd, if_true]; exact (hd2.1 q hq).snoc hp2.1
      · simp only [updL, upd, if_neg e]; exact hd2.1 q hq
end
end Go.Proofs.Ytfcappddncnglaa
