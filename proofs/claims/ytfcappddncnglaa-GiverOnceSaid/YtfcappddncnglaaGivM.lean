/- Words for GiverOnce: its two maps, its row, the blocks that it reads; what was drawn, and whether it is apart. No conditions. -/
import Derived.Test.YtfcappddncnglaaGivL
import Derived.Test.YtfcappddncnglaaNonA
namespace Go.Proofs.Ytfcappddncnglaa
open Go.RowKit Go.Maps No
set_option linter.unusedVariables false

/-- what Apart tells. -/
def ApartR (l : List Nat) (w : World) (e : Ending) (w' : World) : Prop := (l.Nodup ∧ e = .returned (.bool true) ∨ ¬ l.Nodup ∧ e = .returned (.bool false)) ∧ Below w.heap.size w w'
theorem apart_any (A : Option Addr) (c : Nat) (l : List Nat) (h63 : l.length ≤ 17592186044416) (hf : ∀ x ∈ l, x < 18446744073709551616) (w : World) (hA : Rd w.heap.size w A (u64s l)) :
    Calls Try.prog 63 #[.slice A l.length c] w (ApartR l w) := by
  have HF := hide (first_any A c l h63 hf w hA)
  clear hA h63 hf
  go_enter Try.func63, Try.ntmps63
  go_wp2_with fail
  refine HF.out.mono ?_; rintro e w1 ⟨⟨k, i, h, rfl⟩ | ⟨h, rfl⟩, hb⟩
  · have HH := hide h
    clear h
    go_wp2
    go_ret
    exact ⟨.inr ⟨fun hn => first_not HH.out hn, rfl⟩, hb⟩
  · have HH := hide h
    clear h
    go_wp2
    go_ret
    exact ⟨.inl ⟨HH.out, rfl⟩, hb⟩
theorem src_used (w : World) (B g : Nat) (L U : List Nat) (F : Nat → Prop) (h : Src w B g L U F) (hU : U.length ≤ 1099511627776) : Calls Try.prog 64 #[.pointer (some ⟨g, 0, none⟩)] w (NewU U w) := by
  have HIS := hide (src_is w B g L U F h)
  obtain ⟨hf, hF, D, c, V, cv, hb, hD, hr, ho, hV⟩ := h
  have c2 : w.cell? ⟨g, 2, none⟩ = some (.slice V U.length cv) := hb.cell rfl
  have HC := hide (clone_u64 V cv U (by omega) w (own_rd ho))
  clear hf hF hb hD hr ho hV hU
  go_enter Try.func64, Try.ntmps64
  go_wp2_with (first
    | (go_at_call 83; refine HIS.out.mono ?_; rintro e w' ⟨rfl, rfl⟩)
    | (go_at_call 74; refine HC.out.mono ?_; rintro e w1 ⟨A', c', rfl, hown, hb⟩)
    | go_in)
  go_ret
  exact ⟨A', c', rfl, hown, hb⟩
/-! ### the maps -/
theorem zeroU (w : World) : (zeroValue 94).run Try.prog w = .ok (.int .u64 0) w := by kernel_rfl
theorem zeroB (w : World) : (zeroValue 4).run Try.prog w = .ok (.bool false) w := by kernel_rfl
def TellOk (D : DataW Unit) (f : Nat → Option Nat) : Prop := IsMap D ∧ ∀ x : Nat, Maps.has D (.int .u64 (x : Int)) = (f x).isSome ∧ ∀ v, f x = some v → ∀ z, D.atKey (.int .u64 (x : Int)) z = .lit (.int .u64 (v : Int))
theorem tell_new : TellOk (.map []) (fun _ => none) := ⟨isMap_empty, fun x => ⟨by simp [Maps.has], fun v h => by cases h⟩⟩
theorem lit_ne {x c : Nat} (h : x ≠ c) : (Lit.int .u64 (x : Int)) ≠ .int .u64 (c : Int) := fun e => by injection e with _ e; omega
theorem tell_put {D : DataW Unit} {f : Nat → Option Nat} (h : TellOk D f) (c t : Nat) : TellOk (D.put (.int .u64 (c : Int)) (.lit (.int .u64 (t : Int)))) (updF f c (some t)) := by
  refine ⟨h.1.put _ _, fun x => ?_⟩
  unfold updF
  by_cases e : x = c
  · subst e
    rw [if_pos rfl]
    refine ⟨has_put_same h.1 (by exact True.intro) _, fun v hv z => ?_⟩
    injection hv with hv
    subst hv
    exact atKey_put_same h.1 (by exact True.intro) _ _
  · rw [if_neg e]
    refine ⟨by rw [has_put_other (lit_ne e)]; exact (h.2 x).1, fun v hv z => ?_⟩
    rw [atKey_put_other (lit_ne e)]
    exact (h.2 x).2 v hv z
def UsedOk (D : DataW Unit) (S : List Nat) : Prop := IsMap D ∧ ∀ x : Nat, D.atKey (.int .u64 (x : Int)) (.lit (.bool false)) = .lit (.bool (decide (x ∈ S)))
theorem used_new : UsedOk (.map []) [] := ⟨isMap_empty, fun x => by rw [atKey_of_not_has (by simp [Maps.has])]; simp⟩
theorem used_put {D : DataW Unit} {S : List Nat} (h : UsedOk D S) (c : Nat) : UsedOk (D.put (.int .u64 (c : Int)) (.lit (.bool true))) (c :: S) := by
  refine ⟨h.1.put _ _, fun x => ?_⟩
  by_cases e : x = c
  · subst e
    rw [atKey_put_same h.1 (by exact True.intro)]
    simp
  · rw [atKey_put_other (lit_ne e), h.2 x]
    have : decide (x ∈ c :: S) = decide (x ∈ S) := by apply decide_eq_decide.2; simp [e]
    rw [this]
def mapT (w : World) (b n : Nat) (f : Nat → Option Nat) : Prop := ∃ D : DataW Unit, w.ownsMap Try.prog 94 (plainElem Try.prog 94) b n D ∧ TellOk D f
def mapU (w : World) (b n : Nat) (S : List Nat) : Prop := ∃ D : DataW Unit, w.ownsMap Try.prog 94 (plainElem Try.prog 4) b n D ∧ UsedOk D S
theorem own_map_same {H : Type} {P : Program} {k : TypeId} {R : Value → Option (DataW H × List MemPlace)} {b n : Nat} {D : DataW H} {w w' : World} (h : w.ownsMap P k R b n D) (e : w'.heap[b]? = w.heap[b]?) : w'.ownsMap P k R b n D := by
  obtain ⟨es, cl, hb, r⟩ := h
  exact ⟨es, cl, e.trans hb, r⟩
section
variable {w w' : World} {b n : Nat} {f : Nat → Option Nat} {S : List Nat}
theorem mapT_same (h : mapT w b n f) (e : w'.heap[b]? = w.heap[b]?) : mapT w' b n f := by obtain ⟨D, h1, h2⟩ := h; exact ⟨D, own_map_same h1 e, h2⟩
theorem mapU_same (h : mapU w b n S) (e : w'.heap[b]? = w.heap[b]?) : mapU w' b n S := by obtain ⟨D, h1, h2⟩ := h; exact ⟨D, own_map_same h1 e, h2⟩
theorem mapT_lt (h : mapT w b n f) : b < w.heap.size := by obtain ⟨D, h1, _⟩ := h; exact h1.lt
theorem mapU_lt (h : mapU w b n S) : b < w.heap.size := by obtain ⟨D, h1, _⟩ := h; exact h1.lt
theorem mapT_more (h : mapT w b n f) {m : Nat} (hm : n ≤ m) : mapT w b m f := by obtain ⟨D, h1, h2⟩ := h; exact ⟨D, h1.mono hm, h2⟩
theorem mapU_more (h : mapU w b n S) {m : Nat} (hm : n ≤ m) : mapU w b m S := by obtain ⟨D, h1, h2⟩ := h; exact ⟨D, h1.mono hm, h2⟩
theorem key64 {c : Nat} (hc : c < 18446744073709551616) : keyOf Try.prog 94 (.int .u64 (c : Int)) = some (.int .u64 (c : Int)) := keyOf_int_mk Try.underlying94 (WalkArith.wf_u64 (by omega))
theorem mapT_set (h : mapT w b n f) (hn : n ≤ 1000000) {c t : Nat} (hc : c < 18446744073709551616) (ht : t < 18446744073709551616) :
    ∃ w', (Instr.mapUpdate 111 (.map (some b)) (.int .u64 (c : Int)) (.int .u64 (t : Int))).run Try.prog w = .ok () w' ∧ mapT w' b (n + 1) (updF f c (some t)) ∧ w.grownBy w' (some b) := by
  obtain ⟨D, h1, h2⟩ := h
  obtain ⟨w', r1, r2, r3⟩ := h1.update keyU Try.underlying111 (by unfold maxLen; omega) (key64 hc) (plainElem_int Try.underlying94 (WalkArith.wf_u64 (show 0 ≤ (t : Int) ∧ (t : Int) ≤ 18446744073709551615 by omega)))
  exact ⟨w', r1, ⟨_, r2, tell_put h2 c t⟩, r3⟩
theorem mapU_set (h : mapU w b n S) (hn : n ≤ 1000000) {c : Nat} (hc : c < 18446744073709551616) :
    ∃ w', (Instr.mapUpdate 112 (.map (some b)) (.int .u64 (c : Int)) (.bool true)).run Try.prog w = .ok () w' ∧ mapU w' b (n + 1) (c :: S) ∧ w.grownBy w' (some b) := by
  obtain ⟨D, h1, h2⟩ := h
  obtain ⟨w', r1, r2, r3⟩ := h1.update keyU Try.underlying112 (by unfold maxLen; omega) (key64 hc) (plainElem_bool Try.underlying4 true)
  exact ⟨w', r1, ⟨_, r2, used_put h2 c⟩, r3⟩
set_option maxRecDepth 100000 in
theorem mapT_get (h : mapT w b n f) {c v : Nat} (hc : c < 18446744073709551616) (hv : f c = some v) :
    (Instr.lookup 111 (.map (some b)) (.int .u64 (c : Int)) true).run Try.prog w = .ok (.tuple #[.int .u64 (v : Int), .bool true]) w := by
  obtain ⟨D, h1, h2⟩ := h
  obtain ⟨u, ps, r1, r2⟩ := h1.look_ok keyU Try.underlying111 (zeroU w) (plainElem_int Try.underlying94 (by decide)) (key64 hc)
  obtain ⟨c', rfl, e, _⟩ := plainElem_int_inv Try.underlying94 r2
  rw [(h2.2 c).1, hv] at r1
  have e2 := congrArg Prod.fst e
  simp only at e2
  rw [(h2.2 c).2 v hv] at e2
  injection e2 with e2
  injection e2 with _ e2
  rw [← e2] at r1
  exact r1
set_option maxRecDepth 100000 in
theorem mapU_get (h : mapU w b n S) {c : Nat} (hc : c < 18446744073709551616) (hS : c ∉ S) :
    (Instr.lookup 112 (.map (some b)) (.int .u64 (c : Int)) false).run Try.prog w = .ok (.bool false) w := by
  obtain ⟨D, h1, h2⟩ := h
  obtain ⟨u, ps, r1, r2⟩ := h1.lookup keyU Try.underlying112 (zeroB w) (plainElem_bool Try.underlying4 false) (key64 hc)
  rw [h2.2 c, decide_eq_false hS] at r2
  have hu : u = .bool false := by
    unfold plainElem at r2
    rw [Try.underlying4] at r2
    cases u <;> simp at r2
    simp [r2.1]
  rw [hu] at r1
  exact r1
end
/-! ### all that the law holds -/
structure Once (w0 w : World) (gx gs : Nat) (L : List Nat) (s : Gst) (F : Nat → Prop) (bt bu n : Nat) (f : Nat → Option Nat) (S : List Nat) (VI : Value) (ins : List Nat) (X : List (Nat × TypeId × List Value)) : Prop where
  g : Gv w w0.heap.size gx gs 3 L s F
  mt : mapT w bt n f
  mu : mapU w bu n S
  ri : w.ownsRow w0.heap.size 94 1 VI ins.length (u64s ins)
  lo : w0.heap.size ≤ bt ∧ w0.heap.size ≤ bu ∧ bt ≠ bu
  off : ∀ k, F k → k ≠ bt ∧ k ≠ bu ∧ VI.ownBlock ≠ some k
  vi : VI.ownBlock ≠ some bt ∧ VI.ownBlock ≠ some bu
  xs : ∀ x ∈ X, Blk w x.1 x.2.1 x.2.2 ∧ ¬ F x.1 ∧ x.1 ≠ bt ∧ x.1 ≠ bu ∧ VI.ownBlock ≠ some x.1
  bel : Below w0.heap.size w0 w
section
variable {w0 w w2 : World} {gx gs : Nat} {L : List Nat} {s s' : Gst} {F F' : Nat → Prop} {bt bu n : Nat} {f f' : Nat → Option Nat} {S S' : List Nat} {VI : Value} {ins : List Nat} {X : List (Nat × TypeId × List Value)}
theorem Once.on (h : Once w0 w gx gs L s F bt bu n f S VI ins X) (hb : Below w.heap.size w w2) : Once w0 w2 gx gs L s F bt bu n f S VI ins X :=
  ⟨h.g.on hb, mapT_same h.mt (hb.block _ (mapT_lt h.mt)), mapU_same h.mu (hb.block _ (mapU_lt h.mu)), own_keep h.ri (fun k hk => hb.block k (own_block_lt h.ri hk).2), h.lo, h.off, h.vi, fun x hx => ⟨(h.xs x hx).1.on hb, (h.xs x hx).2⟩, below2 h.bel hb (Nat.le_refl _)⟩
theorem Once.drew (h : Once w0 w gx gs L s F bt bu n f S VI ins X) : Once w0 w.drew gx gs L s F bt bu n f S VI ins X := h.on (Below.refl _ _).drew
theorem Once.drop (h : Once w0 w gx gs L s F bt bu n f S VI ins X) : Once w0 w gx gs L s F bt bu n f S VI ins [] := ⟨h.g, h.mt, h.mu, h.ri, h.lo, h.off, h.vi, (fun x hx => by cases hx), h.bel⟩
/-- a block more that is read. -/
theorem Once.add (h : Once w0 w gx gs L s F bt bu n f S VI ins X) (ty : TypeId) (cs : List Value) : Once w0 (w.alloc (.cells cs.toArray ty)) gx gs L s F bt bu n f S VI ins ((w.heap.size, ty, cs) :: X) := by
  have h2 := h.on ((Below.refl _ w).alloc (Nat.le_refl _) (.cells cs.toArray ty))
  refine ⟨h2.g, h2.mt, h2.mu, h2.ri, h2.lo, h2.off, h2.vi, fun x hx => ?_, h2.bel⟩
  rcases List.mem_cons.1 hx with rfl | hx
  · exact ⟨Blk.new w ty cs, (fun hf => by have := (h.g.foot _ hf).2; simp only at this; omega), Nat.ne_of_gt (mapT_lt h.mt), Nat.ne_of_gt (mapU_lt h.mu), (fun e => by have := (own_block_lt h.ri e).2; simp only at this; omega)⟩
  · exact h2.xs x hx
/-- the giver has turned. -/
theorem Once.turn (h : Once w0 w gx gs L s F bt bu n f S VI ins X) (ht : Turn F F' w w2) (hg : Gv w2 w0.heap.size gx gs 3 L s' F') : Once w0 w2 gx gs L s' F' bt bu n f S VI ins X := by
  refine ⟨hg, mapT_same h.mt (ht.block _ (mapT_lt h.mt) (fun hf => (h.off _ hf).1 rfl)), mapU_same h.mu (ht.block _ (mapU_lt h.mu) (fun hf => (h.off _ hf).2.1 rfl)), own_keep h.ri (fun k hk => ht.block k (own_block_lt h.ri hk).2 (fun hf => (h.off _ hf).2.2 hk)), h.lo, fun k hk => ?_, h.vi, fun x hx => ?_, ht.below h.bel h.g.foot h.bel.size⟩
  · rcases ht.new k hk with h1 | h1
    · exact h.off k h1
    · exact ⟨by have := mapT_lt h.mt; omega, by have := mapU_lt h.mu; omega, fun e => by have := (own_block_lt h.ri e).2; omega⟩
  · obtain ⟨a, b, c⟩ := h.xs x hx
    exact ⟨a.kept (ht.block _ a.lt b), (fun hf => (ht.new _ hf).elim b (fun h1 => by have := a.lt; omega)), c⟩
/-- something was told. -/
theorem Once.tell (h : Once w0 w gx gs L s F bt bu n f S VI ins X) (hg : w.grownBy w2 (some bt)) (hm : mapT w2 bt (n + 1) f') : Once w0 w2 gx gs L s F bt bu (n + 1) f' S VI ins X := by
  have hk : ∀ k, k < w.heap.size → k ≠ bt → w2.heap[k]? = w.heap[k]? := fun k hk hne => hg.block k hk (fun e => hne (Option.some.inj e))
  exact ⟨h.g.kept (fun k hf => hk k (h.g.foot k hf).2 (h.off k hf).1) hg.size, hm, mapU_more (mapU_same h.mu (hk _ (mapU_lt h.mu) h.lo.2.2.symm)) (Nat.le_succ _), own_keep h.ri (fun k e => hk k (own_block_lt h.ri e).2 (fun e2 => h.vi.1 (e2 ▸ e))), h.lo, h.off, h.vi,
    fun x hx => ⟨(h.xs x hx).1.kept (hk _ (h.xs x hx).1.lt (h.xs x hx).2.2.1), (h.xs x hx).2⟩, h.bel.grown hg h.bel.size (fun k e => by cases e; exact h.lo.1)⟩
/-- a challenge was used. -/
theorem Once.use (h : Once w0 w gx gs L s F bt bu n f S VI ins X) (hg : w.grownBy w2 (some bu)) (hm : mapU w2 bu (n + 1) S') : Once w0 w2 gx gs L s F bt bu (n + 1) f S' VI ins X := by
  have hk : ∀ k, k < w.heap.size → k ≠ bu → w2.heap[k]? = w.heap[k]? := fun k hk hne => hg.block k hk (fun e => hne (Option.some.inj e))
  exact ⟨h.g.kept (fun k hf => hk k (h.g.foot k hf).2 (h.off k hf).2.1) hg.size, mapT_more (mapT_same h.mt (hk _ (mapT_lt h.mt) h.lo.2.2)) (Nat.le_succ _), hm, own_keep h.ri (fun k e => hk k (own_block_lt h.ri e).2 (fun e2 => h.vi.2 (e2 ▸ e))), h.lo, h.off, h.vi,
    fun x hx => ⟨(h.xs x hx).1.kept (hk _ (h.xs x hx).1.lt (h.xs x hx).2.2.2.1), (h.xs x hx).2⟩, h.bel.grown hg h.bel.size (fun k e => by cases e; exact h.lo.2.1)⟩
theorem Once.more (h : Once w0 w gx gs L s F bt bu n f S VI ins X) {m : Nat} (hm : n ≤ m) : Once w0 w gx gs L s F bt bu m f S VI ins X := ⟨h.g, mapT_more h.mt hm, mapU_more h.mu hm, h.ri, h.lo, h.off, h.vi, h.xs, h.bel⟩
/-- a number was appended. -/
theorem Once.push (h : Once w0 w gx gs L s F bt bu n f S VI ins X) {V' : Value} {T : Nat} (hown : w2.ownsRow w0.heap.size 94 1 V' (ins.length + 1) (u64s ins ++ [.int .u64 (T : Int)])) (hg : w.grownBy w2 VI.ownBlock) (hat : V'.ownBlock = VI.ownBlock ∨ V'.ownBlock = some (w.heap.size + 1)) :
    Once w0 w2 gx gs L s F bt bu n f S V' (ins ++ [T]) X := by
  have hk : ∀ k, k < w.heap.size → VI.ownBlock ≠ some k → w2.heap[k]? = w.heap[k]? := fun k hk hne => hg.block k hk (fun e => hne e.symm)
  have hv : ∀ k, k < w.heap.size → VI.ownBlock ≠ some k → V'.ownBlock ≠ some k := fun k hk hne e => hat.elim (fun e2 => hne (e2 ▸ e)) (fun e2 => by rw [e2] at e; injection e with e; omega)
  refine ⟨h.g.kept (fun k hf => hk k (h.g.foot k hf).2 (h.off k hf).2.2) hg.size, mapT_same h.mt (hk _ (mapT_lt h.mt) h.vi.1), mapU_same h.mu (hk _ (mapU_lt h.mu) h.vi.2), ?_, h.lo, fun k hf => ⟨(h.off k hf).1, (h.off k hf).2.1, hv k (h.g.foot k hf).2 (h.off k hf).2.2⟩, ⟨hv _ (mapT_lt h.mt) h.vi.1, hv _ (mapU_lt h.mu) h.vi.2⟩,
    fun x hx => ⟨(h.xs x hx).1.kept (hk _ (h.xs x hx).1.lt (h.xs x hx).2.2.2.2), (h.xs x hx).2.1, (h.xs x hx).2.2.1, (h.xs x hx).2.2.2.1, hv _ (h.xs x hx).1.lt (h.xs x hx).2.2.2.2⟩, below_app h.bel h.ri hg h.bel.size⟩
  rw [List.length_append, u64s_app]
  exact hown
end
/-- what was drawn is a number of 64 bits. -/
theorem nextN_fit {L : List Nat} (hf : ∀ x ∈ L, x < 18446744073709551616) {i : Nat} (hi : i ≤ 1000000) : nextN L i < 18446744073709551616 := by
  by_cases h : i < L.length
  · exact hf _ (List.mem_of_getElem? (nextN_lt h))
  · rw [nextN_ge (by omega)]; omega
end Go.Proofs.Ytfcappddncnglaa
