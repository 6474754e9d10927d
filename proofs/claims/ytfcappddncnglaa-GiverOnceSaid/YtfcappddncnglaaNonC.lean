/- Layer 26's Source and its reference, each by what it does in memory. No conditions. -/
import Derived.Test.YtfcappddncnglaaNonB
namespace Go.Proofs.Ytfcappddncnglaa
open Go.RowKit No
set_option linter.unusedVariables false

/-- the program's source, in block g: what it draws from, what was drawn; F holds its blocks. -/
def Src (w : World) (B g : Nat) (L U : List Nat) (F : Nat → Prop) : Prop :=
  Foot F B w ∧ F g ∧ ∃ D c V cv, Blk w g 135 [.bool true, .slice D L.length c, .slice V U.length cv] ∧ (∀ b o s, D = some ⟨b, o, s⟩ → F b) ∧ Rd g w D (u64s L) ∧
    w.ownsRow (g + 1) 94 1 (.slice V U.length cv) U.length (u64s U) ∧ (∀ k, (Value.slice V U.length cv).ownBlock = some k → F k)
def RSrc (w : World) (B g : Nat) (L U : List Nat) (F : Nat → Prop) : Prop :=
  Foot F B w ∧ F g ∧ ∃ D c V cv, Blk w g 137 [.slice D L.length c, .slice V U.length cv] ∧ (∀ b o s, D = some ⟨b, o, s⟩ → F b) ∧ Rd g w D (u64s L) ∧
    w.ownsRow (g + 1) 94 1 (.slice V U.length cv) U.length (u64s U) ∧ (∀ k, (Value.slice V U.length cv).ownBlock = some k → F k)
section
variable {w w' : World} {B g : Nat} {L U : List Nat} {F : Nat → Prop}
theorem Src.kept (h : Src w B g L U F) (hk : ∀ k, F k → w'.heap[k]? = w.heap[k]?) (hs : w.heap.size ≤ w'.heap.size) : Src w' B g L U F := by
  obtain ⟨hf, hg, D, c, V, cv, hb, hD, hr, ho, hV⟩ := h
  exact ⟨hf.on hs, hg, D, c, V, cv, hb.kept (hk g hg), hD, rd_keep hr (fun b o s e => hk b (hD b o s e)), own_keep ho (fun k e => hk k (hV k e)), hV⟩
theorem RSrc.kept (h : RSrc w B g L U F) (hk : ∀ k, F k → w'.heap[k]? = w.heap[k]?) (hs : w.heap.size ≤ w'.heap.size) : RSrc w' B g L U F := by
  obtain ⟨hf, hg, D, c, V, cv, hb, hD, hr, ho, hV⟩ := h
  exact ⟨hf.on hs, hg, D, c, V, cv, hb.kept (hk g hg), hD, rd_keep hr (fun b o s e => hk b (hD b o s e)), own_keep ho (fun k e => hk k (hV k e)), hV⟩
theorem Src.on (h : Src w B g L U F) (hb : Below w.heap.size w w') : Src w' B g L U F := h.kept (below_kept hb h.1) hb.size
theorem RSrc.on (h : RSrc w B g L U F) (hb : Below w.heap.size w w') : RSrc w' B g L U F := h.kept (below_kept hb h.1) hb.size
end
/-- the blocks of a new source. -/
def footOf (g : Nat) (A : Option Addr) (k : Nat) : Prop := k = g ∨ ∃ o s, A = some ⟨k, o, s⟩

theorem src_new (A : Option Addr) (c : Nat) (l : List Nat) (hl : l.length ≤ 17592186044416) (w : World) (hA : Rd w.heap.size w A (u64s l)) :
    Calls Try.prog 52 #[.slice A l.length c] w fun e w' => ∃ g F, e = .returned (.pointer (some ⟨g, 0, none⟩)) ∧ Src w' w.heap.size g l [] F ∧ Below w.heap.size w w' := by
  have HC := hide (clone_u64 A c l hl w hA)
  clear hA hl
  go_enter Try.func52, Try.ntmps52
  go_wp2_with (first | (go_at_call 74; refine HC.out.mono ?_; rintro e w1 ⟨A', c', rfl, hown, hb⟩) | go_in)
  go_ret
  have hr := own_rd hown
  refine ⟨w1.heap.size, footOf w1.heap.size A', rfl, ⟨?_, .inl rfl, A', c', none, 0, Blk.new w1 _ _, ?_, hr.below ((Below.refl _ _).alloc (Nat.le_refl _) _) (Nat.le_refl _), World.ownsRow_nil _ _ _ _, by intro k hk; cases hk⟩, hb.alloc hb.size _⟩
  · intro k hk
    have hs := ((Below.refl w1.heap.size w1).alloc (Nat.le_refl _) (.cells #[.bool true, .slice A' l.length c', .slice none 0 0] 135)).size
    have hs2 := (Blk.new w1 135 [.bool true, .slice A' l.length c', .slice none 0 0]).lt
    rcases hk with rfl | ⟨o, s, hk⟩
    · exact ⟨hb.size, hs2⟩
    · have := own_block_lt hown (k := k) (by rw [hk]; rfl)
      exact ⟨this.1, Nat.lt_of_lt_of_le this.2 hs⟩
  · intro b o s e
    exact .inr ⟨o, s, e⟩
theorem rsrc_new (A : Option Addr) (c : Nat) (l : List Nat) (hl : l.length ≤ 17592186044416) (w : World) (hA : Rd w.heap.size w A (u64s l)) :
    Calls Try.prog 54 #[.slice A l.length c] w fun e w' => ∃ g F, e = .returned (.pointer (some ⟨g, 0, none⟩)) ∧ RSrc w' w.heap.size g l [] F ∧ Below w.heap.size w w' := by
  obtain ⟨i0, hi, hz0, hz1, hz2⟩ := info_parts Try.infU
  have HA := hide hA
  have g3 : l.length = (u64s l).length := (u64s_length l).symm
  have G3 := hide g3
  have g1 : 0 + (u64s l).length ≤ 9223372036854775807 := by rw [u64s_length]; omega
  have g2 : (0 + (u64s l).length) * 8 ≤ 140737488355328 := by rw [u64s_length]; omega
  clear hA g3
  go_enter Try.func54, Try.ntmps54
  go_wp2_with (at_builtin; refine wpList_appN _ rfl (.tmp 3) (.tmp 4) 81 rfl w.heap.size 94 i0 (.int .u64 0) 8 Try.underlying81 hi hz0 hz1 hz2 rfl _ _ _ rfl (own_zero w _) A c w.heap.size l.length (u64s l) (by rfl) G3.out ((HA.out).below ((Below.refl _ _).alloc (Nat.le_refl _) _) (Nat.le_refl _)) (u64s_one l) g1 g2 ((Below.refl w.heap.size w).alloc (Nat.le_refl _) _).size ?_; intro v' w1 hown1 hg1 hat1; obtain ⟨A', c', rfl, _⟩ := own_val hown1)
  go_ret
  have hb := below_app ((Below.refl _ _).alloc (Nat.le_refl _) _) (own_zero w _) hg1 ((Below.refl w.heap.size w).alloc (Nat.le_refl _) _).size
  rw [List.nil_append, Nat.zero_add, ← G3.out] at hown1
  have hown := hown1
  rw [← G3.out]
  have hr := own_rd hown
  refine ⟨w1.heap.size, footOf w1.heap.size A', rfl, ⟨?_, .inl rfl, A', c', none, 0, Blk.new w1 _ _, ?_, hr.below ((Below.refl _ _).alloc (Nat.le_refl _) _) (Nat.le_refl _), World.ownsRow_nil _ _ _ _, by intro k hk; cases hk⟩, hb.alloc hb.size _⟩
  · intro k hk
    have hs := ((Below.refl w1.heap.size w1).alloc (Nat.le_refl _) (.cells #[.slice A' l.length c', .slice none 0 0] 137)).size
    have hs2 := (Blk.new w1 137 [.slice A' l.length c', .slice none 0 0]).lt
    rcases hk with rfl | ⟨o, s, hk⟩
    · exact ⟨hb.size, hs2⟩
    · have := own_block_lt hown (k := k) (by rw [hk]; rfl)
      exact ⟨this.1, Nat.lt_of_lt_of_le this.2 hs⟩
  · intro b o s e
    exact .inr ⟨o, s, e⟩

theorem src_is (w : World) (B g : Nat) (L U : List Nat) (F : Nat → Prop) (h : Src w B g L U F) : Calls Try.prog 83 #[.pointer (some ⟨g, 0, none⟩)] w fun e w' => e = .returned (.bool true) ∧ w = w' := by
  obtain ⟨_, _, D, c, V, cv, hb, _⟩ := h
  have c0 : w.cell? ⟨g, 0, none⟩ = some (.bool true) := hb.cell rfl
  clear hb
  go_enter Try.func83, Try.ntmps83
  go_wp2
  go_ret
  exact ⟨rfl, rfl⟩
theorem nil_is26 (w : World) : Calls Try.prog 83 #[.pointer none] w fun e w' => e = .returned (.bool false) ∧ w = w' := by
  go_enter Try.func83, Try.ntmps83
  go_wp2
  go_ret
  exact ⟨rfl, rfl⟩
theorem nil_next26 (w : World) : Calls Try.prog 73 #[.pointer none] w fun e w' => e = .returned (.int .u64 0) ∧ w = w' := by
  go_enter Try.func73, Try.ntmps73
  go_wp2_with (first | (go_at_call 83; refine (nil_is26 _).mono ?_; rintro e w' ⟨rfl, rfl⟩) | go_in)
  go_ret
  exact ⟨rfl, rfl⟩
theorem nil_used26 (w : World) : Calls Try.prog 64 #[.pointer none] w fun e w' => e = .returned (.slice none 0 0) ∧ w = w' := by
  go_enter Try.func64, Try.ntmps64
  go_wp2_with (first | (go_at_call 83; refine (nil_is26 _).mono ?_; rintro e w' ⟨rfl, rfl⟩) | go_in)
  go_ret
  exact ⟨rfl, rfl⟩
/-- what is drawn, and what it turns. -/
def Drawn (w : World) (B g : Nat) (L U : List Nat) (F : Nat → Prop) (e : Ending) (w' : World) : Prop :=
  ∃ F', e = .returned (.int .u64 (nextN L U.length : Nat)) ∧ Src w' B g L (U ++ [nextN L U.length]) F' ∧ Turn F F' w w'
def RDrawn (w : World) (B g : Nat) (L U : List Nat) (F : Nat → Prop) (e : Ending) (w' : World) : Prop :=
  ∃ F', e = .returned (.int .u64 (nextN L U.length : Nat)) ∧ RSrc w' B g L (U ++ [nextN L U.length]) F' ∧ Turn F F' w w'
theorem nextN_lt {L : List Nat} {i : Nat} (h : i < L.length) : L[i]? = some (nextN L i) := by unfold nextN; rw [dif_pos h]; exact List.getElem?_eq_getElem h
theorem nextN_ge {L : List Nat} {i : Nat} (h : L.length ≤ i) : nextN L i = 9223372036854775808 + (i - L.length) := by unfold nextN; rw [dif_neg (by omega)]
theorem grown_undrew {a w : World} {r : Option Nat} (h : a.drew.grownBy w r) : a.grownBy w r := ⟨h.os, h.tape, h.output, h.size, h.block⟩
/-- the whole change of a source by an append. -/
theorem turn_src {w w2 : World} {B g : Nat} {V : Value} {V' : Value} {n : Nat} {F : Nat → Prop} {v : Value} {i : Nat} {cs : List Value} {t : TypeId}
    (hf : Foot F B w) (hF : F g) (hV : ∀ k, V.ownBlock = some k → F k) (hg1 : w.grownBy w2 V.ownBlock) (hat : V'.ownBlock = V.ownBlock ∨ V'.ownBlock = some (w.heap.size + 1)) (hB : B ≤ w.heap.size) (hown1 : w2.ownsRow (g + 1) t 1 V' n cs) :
    Foot (fun k => F k ∨ V'.ownBlock = some k) B (w2.setCell ⟨g, i, none⟩ v) ∧ Turn F (fun k => F k ∨ V'.ownBlock = some k) w (w2.setCell ⟨g, i, none⟩ v) := by
  have hsz : (w2.setCell ⟨g, i, none⟩ v).heap.size = w2.heap.size := by simp [World.setCell]
  refine ⟨fun k hk => ?_, ?_⟩
  · rcases hk with hk | hk
    · have := hf k hk
      exact ⟨this.1, by rw [hsz]; exact Nat.lt_of_lt_of_le this.2 hg1.size⟩
    · rw [hsz]
      refine ⟨?_, (own_block_lt hown1 hk).2⟩
      rcases hat with h | h
      · exact (hf k (hV k (h ▸ hk))).1
      · rw [hk] at h; injection h with h; omega
  · refine (Turn.of_grown hg1 hV fun k hk => ?_).set hF _ _
    rcases hk with hk | hk
    · exact .inl hk
    · rcases hat with h | h
      · exact .inl (hV k (h ▸ hk))
      · rw [hk] at h; injection h with h; right; omega

theorem src_end {w w2 : World} {B g : Nat} {L U : List Nat} {F : Nat → Prop} {D V A' : Option Addr} {c cv c' x : Nat}
    (hall : Foot F B w ∧ F g ∧ (∀ b o s, D = some ⟨b, o, s⟩ → F b) ∧ Rd g w D (u64s L) ∧ (∀ k, (Value.slice V U.length cv).ownBlock = some k → F k) ∧ w.ownsRow (g + 1) 94 1 (.slice V U.length cv) U.length (u64s U))
    (hb : Blk w2 g 135 [.bool true, .slice D L.length c, .slice V U.length cv])
    (hn : w2.ownsRow (g + 1) 94 1 (.slice A' (U.length + 1) c') (U.length + 1) (u64s U ++ [.int .u64 (x : Int)]) ∧ w.grownBy w2 (Value.slice V U.length cv).ownBlock ∧ ((Value.slice A' (U.length + 1) c').ownBlock = (Value.slice V U.length cv).ownBlock ∨ (Value.slice A' (U.length + 1) c').ownBlock = some (w.heap.size + 1))) :
    ∃ F', Src (w2.setCell ⟨g, 2, none⟩ (.slice A' (U.length + 1) c')) B g L (U ++ [x]) F' ∧ Turn F F' w (w2.setCell ⟨g, 2, none⟩ (.slice A' (U.length + 1) c')) := by
  obtain ⟨hf, hF, hD, hr, hV, ho⟩ := hall
  obtain ⟨hown1, hg1, hat⟩ := hn
  have hgs := (hf g hF).2
  obtain ⟨t1, t2⟩ := turn_src (i := 2) (v := .slice A' (U.length + 1) c') hf hF hV hg1 hat (by have := (hf g hF).1; omega) hown1
  have hl : (U ++ [x]).length = U.length + 1 := by simp
  have hbg : Below (g + 1) w w2 := (Below.refl _ _).grown hg1 hgs fun k hk => (own_block_lt ho hk).1
  refine ⟨_, ⟨t1, .inl hF, D, c, A', c', ?_, fun b o s e => .inl (hD b o s e), ?_, ?_, fun k hk => .inr (by rw [hl] at hk; exact hk)⟩, t2⟩
  · rw [hl]; exact hb.set 2 (.slice A' (U.length + 1) c')
  · exact (hr.below hbg (Nat.le_succ g)).below ((Below.refl g w2).setCell (p := ⟨g, 2, none⟩) (Nat.le_refl _) _) (Nat.le_refl _)
  · rw [hl, u64s_app]
    exact own_keep hown1 fun k hk => Below.heap_setCell w2 ⟨g, 2, none⟩ _ k (fun e => by have := (own_block_lt hown1 hk).1; simp only at e; omega)

theorem rsrc_end {w w2 : World} {B g : Nat} {L U : List Nat} {F : Nat → Prop} {D V A' : Option Addr} {c cv c' x : Nat}
    (hall : Foot F B w ∧ F g ∧ (∀ b o s, D = some ⟨b, o, s⟩ → F b) ∧ Rd g w D (u64s L) ∧ (∀ k, (Value.slice V U.length cv).ownBlock = some k → F k) ∧ w.ownsRow (g + 1) 94 1 (.slice V U.length cv) U.length (u64s U))
    (hb : Blk w2 g 137 [.slice D L.length c, .slice V U.length cv])
    (hn : w2.ownsRow (g + 1) 94 1 (.slice A' (U.length + 1) c') (U.length + 1) (u64s U ++ [.int .u64 (x : Int)]) ∧ w.grownBy w2 (Value.slice V U.length cv).ownBlock ∧ ((Value.slice A' (U.length + 1) c').ownBlock = (Value.slice V U.length cv).ownBlock ∨ (Value.slice A' (U.length + 1) c').ownBlock = some (w.heap.size + 1))) :
    ∃ F', RSrc (w2.setCell ⟨g, 1, none⟩ (.slice A' (U.length + 1) c')) B g L (U ++ [x]) F' ∧ Turn F F' w (w2.setCell ⟨g, 1, none⟩ (.slice A' (U.length + 1) c')) := by
  obtain ⟨hf, hF, hD, hr, hV, ho⟩ := hall
  obtain ⟨hown1, hg1, hat⟩ := hn
  have hgs := (hf g hF).2
  obtain ⟨t1, t2⟩ := turn_src (i := 1) (v := .slice A' (U.length + 1) c') hf hF hV hg1 hat (by have := (hf g hF).1; omega) hown1
  have hl : (U ++ [x]).length = U.length + 1 := by simp
  have hbg : Below (g + 1) w w2 := (Below.refl _ _).grown hg1 hgs fun k hk => (own_block_lt ho hk).1
  refine ⟨_, ⟨t1, .inl hF, D, c, A', c', ?_, fun b o s e => .inl (hD b o s e), ?_, ?_, fun k hk => .inr (by rw [hl] at hk; exact hk)⟩, t2⟩
  · rw [hl]; exact hb.set 1 (.slice A' (U.length + 1) c')
  · exact (hr.below hbg (Nat.le_succ g)).below ((Below.refl g w2).setCell (p := ⟨g, 1, none⟩) (Nat.le_refl _) _) (Nat.le_refl _)
  · rw [hl, u64s_app]
    exact own_keep hown1 fun k hk => Below.heap_setCell w2 ⟨g, 1, none⟩ _ k (fun e => by have := (own_block_lt hown1 hk).1; simp only at e; omega)
set_option maxHeartbeats 1000000 in
theorem src_next (w : World) (B g : Nat) (L U : List Nat) (F : Nat → Prop) (h : Src w B g L U F) (hL : L.length ≤ 17592186044416) (hU : U.length ≤ 1099511627776) :
    Calls Try.prog 73 #[.pointer (some ⟨g, 0, none⟩)] w (Drawn w B g L U F) := by
  obtain ⟨i0, hi, hz0, hz1, hz2⟩ := info_parts Try.infU
  have HIS := hide (src_is w B g L U F h)
  obtain ⟨hf, hF, D, c, V, cv, hb, hD, hr, ho, hV⟩ := h
  have c1 : w.cell? ⟨g, 1, none⟩ = some (.slice D L.length c) := hb.cell rfl
  have c2 : w.cell? ⟨g, 2, none⟩ = some (.slice V U.length cv) := hb.cell rfl
  have hlt := hb.lt
  have hfr : ∀ w2, w.grownBy w2 (Value.slice V U.length cv).ownBlock → Blk w2 g 135 [.bool true, .slice D L.length c, .slice V U.length cv] := fun w2 h2 =>
    hb.grown h2 (fun e => by have := own_block_lt ho e.symm; omega)
  have HFR := hide hfr
  have HALL := hide (And.intro hf (And.intro hF (And.intro hD (And.intro hr (And.intro hV ho)))))
  have g1 : U.length + 1 ≤ 9223372036854775807 := by omega
  have g2 : (U.length + 1) * 8 ≤ 140737488355328 := by omega
  have HO := hide ho
  have hgs : g + 1 ≤ w.heap.size := hlt
  have HGS := hide hgs
  by_cases hi0 : U.length < L.length
  · have hx := nextN_lt hi0
    obtain ⟨b1, o1, rfl, hb1, hc1⟩ := hr.at_ (u64s_get hx)
    clear hf hF hb hD hr ho hV hfr hlt hx hgs hb1 hU hL
    go_enter Try.func73, Try.ntmps73
    go_wp2_with (first
      | (go_at_call 83; refine HIS.out.mono ?_; rintro e w' ⟨rfl, rfl⟩)
      | (at_builtin; refine wpList_app1 _ rfl (.tmp 40) (.tmp 42) 81 rfl (g + 1) 94 i0 (.int .u64 0) 8 Try.underlying81 hi hz0 hz1 hz2 rfl _ _ _ rfl HO.out _ rfl (by rfl) g1 g2 HGS.out ?_; intro v' w2 hown1 hg1 hat1; obtain ⟨A', c', rfl, _⟩ := own_val hown1; have hb2 := HFR.out w2 hg1; have d2 : w2.cell? ⟨g, 2, none⟩ = some (.slice V U.length cv) := hb2.cell rfl; have f2 := hb2.free 2; have HB2 := hide hb2; have HN := hide (And.intro hown1 (And.intro hg1 hat1)); clear hb2 hown1 hg1 hat1)
      | go_in)
    go_ret
    obtain ⟨F', h1, h2⟩ := src_end HALL.out HB2.out HN.out
    exact ⟨F', rfl, h1, h2⟩
  · have hx := nextN_ge (show L.length ≤ U.length by omega)
    have HX : Hid (((nextN L U.length : Nat) : Int) = 9223372036854775808 + ((U.length : Int) - (L.length : Int))) := by show _ = _; rw [hx]; omega
    clear hf hF hb hD hr ho hV hfr hlt hx hgs
    go_enter Try.func73, Try.ntmps73
    go_wp2_with (first
      | (go_at_call 83; refine HIS.out.mono ?_; rintro e w' ⟨rfl, rfl⟩)
      | (at_builtin; refine wpList_app1 _ rfl (.tmp 40) (.tmp 42) 81 rfl (g + 1) 94 i0 (.int .u64 0) 8 Try.underlying81 hi hz0 hz1 hz2 rfl _ _ _ rfl HO.out _ rfl (by rfl) g1 g2 HGS.out ?_; intro v' w2 hown1 hg1 hat1; obtain ⟨A', c', rfl, _⟩ := own_val hown1; have hb2 := HFR.out w2 hg1; have d2 : w2.cell? ⟨g, 2, none⟩ = some (.slice V U.length cv) := hb2.cell rfl; have f2 := hb2.free 2; have HB2 := hide hb2; have HN := hide (And.intro hown1 (And.intro hg1 hat1)); clear hb2 hown1 hg1 hat1)
      | go_in)
    go_ret
    have hn := HN.out
    rw [← HX.out] at hn
    obtain ⟨F', h1, h2⟩ := src_end HALL.out HB2.out hn
    exact ⟨F', by rw [HX.out]; rfl, h1, h2⟩
set_option maxHeartbeats 1000000 in
theorem rsrc_next (w : World) (B g : Nat) (L U : List Nat) (F : Nat → Prop) (h : RSrc w B g L U F) (hL : L.length ≤ 17592186044416) (hU : U.length ≤ 1099511627776) :
    Calls Try.prog 75 #[.pointer (some ⟨g, 0, none⟩)] w (RDrawn w B g L U F) := by
  obtain ⟨i0, hi, hz0, hz1, hz2⟩ := info_parts Try.infU
  obtain ⟨hf, hF, D, c, V, cv, hb, hD, hr, ho, hV⟩ := h
  have c1 : w.cell? ⟨g, 0, none⟩ = some (.slice D L.length c) := hb.cell rfl
  have c2 : w.cell? ⟨g, 1, none⟩ = some (.slice V U.length cv) := hb.cell rfl
  have hlt := hb.lt
  have hfr : ∀ w2, w.grownBy w2 (Value.slice V U.length cv).ownBlock → Blk w2 g 137 [.slice D L.length c, .slice V U.length cv] := fun w2 h2 =>
    hb.grown h2 (fun e => by have := own_block_lt ho e.symm; omega)
  have HFR := hide hfr
  have HALL := hide (And.intro hf (And.intro hF (And.intro hD (And.intro hr (And.intro hV ho)))))
  have g1 : U.length + 1 ≤ 9223372036854775807 := by omega
  have g2 : (U.length + 1) * 8 ≤ 140737488355328 := by omega
  have HO := hide ho
  have hgs : g + 1 ≤ w.heap.size := hlt
  have HGS := hide hgs
  by_cases hi0 : U.length < L.length
  · have hx := nextN_lt hi0
    obtain ⟨b1, o1, rfl, hb1, hc1⟩ := hr.at_ (u64s_get hx)
    clear hf hF hb hD hr ho hV hfr hlt hx hgs hb1 hU hL
    go_enter Try.func75, Try.ntmps75
    go_wp2
    go_region
    go_wp2
    go_region
    obtain ⟨wq, hwq⟩ : ∃ wq, wq = w.drew.drew := ⟨_, rfl⟩
    rw [← hwq]
    have c2q : wq.cell? ⟨g, 1, none⟩ = some (.slice V U.length cv) := by rw [hwq]; exact c2
    have HOq : Hid (wq.ownsRow (g + 1) 94 1 (.slice V U.length cv) U.length (u64s U)) := by rw [hwq]; exact HO.out
    have HGSq : Hid (g + 1 ≤ wq.heap.size) := by rw [hwq]; exact HGS.out
    have HWQ := hide hwq
    clear hwq c2
    go_wp2_with (first
      | (at_builtin; refine wpList_app1 _ rfl (.tmp 44) (.tmp 46) 81 rfl (g + 1) 94 i0 (.int .u64 0) 8 Try.underlying81 hi hz0 hz1 hz2 rfl _ _ _ rfl HOq.out _ rfl (by rfl) g1 g2 HGSq.out ?_; intro v' w2 hown1 hg1 hat1; rw [HWQ.out] at hg1 hat1; replace hg1 := grown_undrew (grown_undrew hg1); obtain ⟨A', c', rfl, _⟩ := own_val hown1; have hb2 := HFR.out w2 hg1; have d2 : w2.cell? ⟨g, 1, none⟩ = some (.slice V U.length cv) := hb2.cell rfl; have f2 := hb2.free 1; have HB2 := hide hb2; have HN := hide (And.intro hown1 (And.intro hg1 hat1)); clear hb2 hown1 hg1 hat1)
      | go_in)
    go_ret
    obtain ⟨F', h1, h2⟩ := rsrc_end HALL.out HB2.out HN.out
    exact ⟨F', rfl, h1, h2⟩
  · have hx := nextN_ge (show L.length ≤ U.length by omega)
    have HX : Hid (((nextN L U.length : Nat) : Int) = 9223372036854775808 + ((U.length : Int) - (L.length : Int))) := by show _ = _; rw [hx]; omega
    clear hf hF hb hD hr ho hV hfr hlt hx hgs
    go_enter Try.func75, Try.ntmps75
    go_wp2
    go_region
    go_wp2
    go_region
    obtain ⟨wq, hwq⟩ : ∃ wq, wq = w.drew.drew := ⟨_, rfl⟩
    rw [← hwq]
    have c2q : wq.cell? ⟨g, 1, none⟩ = some (.slice V U.length cv) := by rw [hwq]; exact c2
    have HOq : Hid (wq.ownsRow (g + 1) 94 1 (.slice V U.length cv) U.length (u64s U)) := by rw [hwq]; exact HO.out
    have HGSq : Hid (g + 1 ≤ wq.heap.size) := by rw [hwq]; exact HGS.out
    have HWQ := hide hwq
    clear hwq c2
    go_wp2_with (first
      | (at_builtin; refine wpList_app1 _ rfl (.tmp 44) (.tmp 46) 81 rfl (g + 1) 94 i0 (.int .u64 0) 8 Try.underlying81 hi hz0 hz1 hz2 rfl _ _ _ rfl HOq.out _ rfl (by rfl) g1 g2 HGSq.out ?_; intro v' w2 hown1 hg1 hat1; rw [HWQ.out] at hg1 hat1; replace hg1 := grown_undrew (grown_undrew hg1); obtain ⟨A', c', rfl, _⟩ := own_val hown1; have hb2 := HFR.out w2 hg1; have d2 : w2.cell? ⟨g, 1, none⟩ = some (.slice V U.length cv) := hb2.cell rfl; have f2 := hb2.free 1; have HB2 := hide hb2; have HN := hide (And.intro hown1 (And.intro hg1 hat1)); clear hb2 hown1 hg1 hat1)
      | go_in)
    go_ret
    have hn := HN.out
    rw [← HX.out] at hn
    obtain ⟨F', h1, h2⟩ := rsrc_end HALL.out HB2.out hn
    exact ⟨F', by rw [HX.out]; rfl, h1, h2⟩
end Go.Proofs.Ytfcappddncnglaa
