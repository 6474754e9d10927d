/- Layer 19's reference queue, by what it does in memory: New, At, Push. No conditions. -/
import Derived.Test.YtnbhgeodbpelgaaQueF
import Derived.Deep.RegionLaw
namespace Go.Proofs.Ytnbhgeodbpelgaa
open Go.RowKit
set_option linter.unusedVariables false

/-- the reference's queue, in block g. -/
def RQu (w : World) (B g room : Nat) (ms : List (List Nat)) (F : Nat → Prop) : Prop :=
  Foot F B w ∧ F g ∧ (1 ≤ room ∧ room ≤ 16 ∧ ms.length ≤ room) ∧ (∀ m ∈ ms, m.length ≤ 64) ∧
  ∃ V cV vs, Blk w g 116 [.int .i64 (room : Nat), .slice V ms.length cV] ∧ w.ownsRow (g + 1) 34 1 (.slice V ms.length cV) ms.length vs ∧
    (∀ k, (Value.slice V ms.length cV).ownBlock = some k → F k) ∧ Txs w vs ms ∧ (∀ v ∈ vs, ∀ k, v.ownBlock = some k → F k ∧ k ≠ g ∧ (Value.slice V ms.length cV).ownBlock ≠ some k)
section
variable {w w' : World} {B g room : Nat} {ms : List (List Nat)} {F : Nat → Prop}
theorem RQu.kept (h : RQu w B g room ms F) (hk : ∀ k, F k → w'.heap[k]? = w.heap[k]?) (hs : w.heap.size ≤ w'.heap.size) : RQu w' B g room ms F := by
  obtain ⟨hf, hg, hr, hm, V, cV, vs, hb, ho, hV, ht, hd⟩ := h
  exact ⟨hf.on hs, hg, hr, hm, V, cV, vs, hb.kept (hk g hg), own_keep ho (fun k e => hk k (hV k e)), hV, ht.kept (fun u hu k e => hk k (hd u hu k e).1) hs, hd⟩
theorem RQu.on (h : RQu w B g room ms F) (hb : Below w.heap.size w w') : RQu w' B g room ms F := h.kept (below_kept hb h.1) hb.size
theorem RQu.drewN (h : RQu w B g room ms F) (n : Nat) : RQu (w.drewN n) B g room ms F := h
end
theorem rque_new (r : Int) (hr : 1 ≤ r) (hr2 : r ≤ 16) (w : World) : Calls Try.prog 58 #[.int .i64 r] w fun e w' => ∃ g F, e = .returned (.tuple #[.pointer (some ⟨g, 0, none⟩), .int .i64 0]) ∧ RQu w' w.heap.size g r.toNat [] F ∧ Below w.heap.size w w' := by
  obtain ⟨r, rfl⟩ := Int.eq_ofNat_of_zero_le (show 0 ≤ r by omega)
  have h1 : ¬ (r : Int) < 1 := by omega
  go_enter Try.func58, Try.ntmps58
  go_wp2
  go_ret2
  refine ⟨_, rfl, ⟨fun k => k = w.heap.size, ⟨?_, rfl, ⟨by omega, by omega, by simp⟩, by simp, none, 0, [], Blk.new w _ _, World.ownsRow_nil _ _ _ _, (fun k h => by cases h), Txs.nil _, by simp⟩⟩, (Below.refl _ _).alloc (Nat.le_refl _) _⟩
  rintro k rfl
  exact ⟨Nat.le_refl _, (Blk.new w _ _).lt⟩
theorem rque_bad (r : Int) (hr : r < 1 ∨ 16 < r) (w : World) : Calls Try.prog 58 #[.int .i64 r] w fun e w' => e = .returned (.tuple #[.pointer none, .int .i64 1]) ∧ w = w' := by
  rcases hr with h | h
  · go_enter Try.func58, Try.ntmps58
    go_wp2
    go_ret2
    exact ⟨rfl, rfl⟩
  · have h1 : ¬ (r : Int) < 1 := by omega
    go_enter Try.func58, Try.ntmps58
    go_wp2
    go_ret2
    exact ⟨rfl, rfl⟩
theorem rque_at_in {w : World} {B g room : Nat} {ms : List (List Nat)} {F : Nat → Prop} (h : RQu w B g room ms F) (i : Nat) (m : List Nat) (hm : ms[i]? = some m) :
    Calls Try.prog 73 #[.pointer (some ⟨g, 0, none⟩), .int .i64 (i : Nat)] w (AtR (some m) w) := by
  obtain ⟨_, _, ⟨r1, r2, r3⟩, hsm, V, cV, vs, hb, ho, _, ht, _⟩ := h
  obtain ⟨v, hv, A, c, rfl, hr⟩ := ht.2 i m hm
  have hml := hsm m (List.mem_of_getElem? hm)
  have hil := (List.getElem?_eq_some_iff.1 hm).1
  have HCL := hide (copy_u8 A c m (by omega) w hr)
  have c1 : w.cell? ⟨g, 1, none⟩ = some (.slice V ms.length cV) := hb.cell rfl
  obtain ⟨b1, o1, rfl, _, hc1⟩ := (own_rd ho).at_ hv
  have h0 : ¬ (i : Int) < 0 := by omega
  have h1 : ¬ (ms.length : Int) ≤ (i : Int) := by omega
  clear hb ht hr hv hm hsm hil r1 r2 r3 ho
  go_enter Try.func73, Try.ntmps73
  go_wp2_with fail
  refine HCL.out.mono ?_; rintro e w1 ⟨A1, c1, rfl, hq0, hq1⟩
  go_wp2
  go_ret2
  exact ⟨A1, c1, rfl, hq0, hq1⟩
theorem rque_at_out {w : World} {B g room : Nat} {ms : List (List Nat)} {F : Nat → Prop} (h : RQu w B g room ms F) (i : Int) (hi : i < 0 ∨ (0 ≤ i ∧ (ms.length : Int) ≤ i)) :
    Calls Try.prog 73 #[.pointer (some ⟨g, 0, none⟩), .int .i64 i] w fun e w' => e = .returned (.tuple #[.slice none 0 0, .bool false]) ∧ w = w' := by
  obtain ⟨_, _, _, _, V, cV, vs, hb, _⟩ := h
  have c1 : w.cell? ⟨g, 1, none⟩ = some (.slice V ms.length cV) := hb.cell rfl
  clear hb
  rcases hi with hi | ⟨hi, h1⟩
  · go_enter Try.func73, Try.ntmps73
    go_wp2
    go_ret2
    exact ⟨rfl, rfl⟩
  · have h0 : ¬ i < 0 := by omega
    clear hi
    go_enter Try.func73, Try.ntmps73
    go_wp2
    go_ret2
    exact ⟨rfl, rfl⟩
theorem rque_at {w : World} {B g room : Nat} {ms : List (List Nat)} {F : Nat → Prop} (h : RQu w B g room ms F) (i : Int) :
    Calls Try.prog 73 #[.pointer (some ⟨g, 0, none⟩), .int .i64 i] w (AtR (getAt ms i) w) := by
  unfold getAt
  by_cases h0 : i < 0
  · rw [if_pos h0]
    refine (rque_at_out h i (.inl h0)).mono ?_
    rintro e w' ⟨rfl, rfl⟩
    exact atR_none
  · rw [if_neg h0]
    obtain ⟨j, rfl⟩ := Int.eq_ofNat_of_zero_le (show 0 ≤ i by omega)
    by_cases h1 : j < ms.length
    · have := rque_at_in h j _ (List.getElem?_eq_getElem h1)
      rw [Int.toNat_natCast, List.getElem?_eq_getElem h1]
      exact this
    · rw [List.getElem?_eq_none (by simp; omega)]
      refine (rque_at_out h j (.inr (by omega))).mono ?_
      rintro e w' ⟨rfl, rfl⟩
      exact atR_none
/-! ### Push -/
theorem rqu_pushed {w w1 w3 : World} {B g room : Nat} {ms : List (List Nat)} {F : Nat → Prop} {m : List Nat} {V A' : Option Addr} {cV c' : Nat} {vs : List Value} {v : Value}
    (hF : Foot F B w) (hg : F g) (hr : 1 ≤ room ∧ room ≤ 16 ∧ ms.length ≤ room) (hsm : ∀ m ∈ ms, m.length ≤ 64)
    (hb : Blk w g 116 [.int .i64 (room : Nat), .slice V ms.length cV]) (ho : w.ownsRow (g + 1) 34 1 (.slice V ms.length cV) ms.length vs) (hV : ∀ k, (Value.slice V ms.length cV).ownBlock = some k → F k)
    (ht : Txs w vs ms) (hd : ∀ v ∈ vs, ∀ k, v.ownBlock = some k → F k ∧ k ≠ g ∧ (Value.slice V ms.length cV).ownBlock ≠ some k)
    (hlt : ms.length < room) (hml : m.length ≤ 64) (hbel : Below w.heap.size w w1) (hown : w1.ownsRow w.heap.size 5 1 v m.length (u8s m))
    (hown3 : w3.ownsRow (g + 1) 34 1 (.slice A' (ms.length + 1) c') (ms.length + 1) (vs ++ [v])) (hg3 : w1.grownBy w3 (Value.slice V ms.length cV).ownBlock)
    (hat : (Value.slice A' (ms.length + 1) c').ownBlock = (Value.slice V ms.length cV).ownBlock ∨ (Value.slice A' (ms.length + 1) c').ownBlock = some (w1.heap.size + 1)) :
    let w2 := w3.setCell ⟨g, 1, none⟩ (.slice A' (ms.length + 1) c')
    RQu w2 B g room (ms ++ [m]) (more F w w2) ∧ Turn F (more F w w2) w w2 := by
  intro w2
  have hgl := hb.lt
  have hs2 : w2.heap.size = w3.heap.size := by simp [w2, World.setCell]
  have hs1 := hbel.size
  have hs3 := hg3.size
  have hVl : ∀ k, (Value.slice V ms.length cV).ownBlock = some k → g < k ∧ k < w.heap.size := fun k hk => ⟨(own_block_lt ho hk).1, (own_block_lt ho hk).2⟩
  have hfar : ∀ k, k ≠ g → w2.heap[k]? = w3.heap[k]? := fun k hk => Below.heap_setCell w3 ⟨g, 1, none⟩ _ k hk
  have hb3 : Blk w3 g _ _ := (hb.on hbel).grown hg3 (fun e => by have := hVl g e.symm; omega)
  have hkeep : ∀ k, k < w.heap.size → k ≠ g → (Value.slice V ms.length cV).ownBlock ≠ some k → w2.heap[k]? = w.heap[k]? := fun k hk h1 h2 =>
    ((hfar k h1).trans (hg3.block k (by omega) (fun e => h2 e.symm))).trans (hbel.block k hk)
  have hV'k : ∀ k, (Value.slice A' (ms.length + 1) c').ownBlock = some k → more F w w2 k ∧ k ≠ g := by
    intro k hk
    have hl3 := (own_block_lt hown3 hk)
    rcases hat with e | e
    · rw [e] at hk; exact ⟨.inl (hV k hk), by omega⟩
    · rw [e] at hk; injection hk with hk; exact ⟨.inr ⟨by omega, by omega⟩, by omega⟩
  refine ⟨⟨?_, .inl hg, ⟨hr.1, hr.2.1, by simp; omega⟩, ?_, A', c', vs ++ [v], ?_, ?_, ?_, ?_, ?_⟩, ?_⟩
  · rintro k (hk | hk)
    · have := hF k hk; omega
    · have := hF g hg; omega
  · intro x hx
    rcases List.mem_append.1 hx with h | h
    · exact hsm x h
    · simp at h; subst h; exact hml
  · rw [List.length_append, List.length_singleton]; exact hb3.set 1 (.slice A' (ms.length + 1) c')
  · rw [List.length_append, List.length_singleton]; exact own_keep hown3 fun k hk => hfar k (hV'k k hk).2
  · rw [List.length_append, List.length_singleton]; exact fun k hk => (hV'k k hk).1
  · obtain ⟨Av, cv, rfl, _⟩ := own_val hown
    refine (ht.kept (fun u hu k hk => hkeep k (hF k (hd u hu k hk).1).2 (hd u hu k hk).2.1 (hd u hu k hk).2.2) (by omega)).snoc ?_
    refine (own_tx hown).kept (fun k hk => ?_) (by omega)
    have := own_block_lt hown hk
    exact (hfar k (by omega)).trans (hg3.block k this.2 (fun e => by have := hVl k e.symm; omega))
  · rw [List.length_append, List.length_singleton]
    intro u hu k hk
    rcases List.mem_append.1 hu with hu | hu
    · obtain ⟨a, b, c⟩ := hd u hu k hk
      refine ⟨.inl a, b, ?_⟩
      rcases hat with e | e
      · rw [e]; exact c
      · rw [e]; intro e2; injection e2 with e2; have := (hF k a).2; omega
    · simp at hu; subst hu
      have := own_block_lt hown hk
      refine ⟨.inr ⟨by omega, by omega⟩, by omega, ?_⟩
      rcases hat with e | e
      · rw [e]; intro e2; have := hVl k e2; omega
      · rw [e]; intro e2; injection e2 with e2; omega
  · refine ⟨?_, ?_, ?_, by omega, fun k hk hn => hkeep k hk (fun e => hn (e ▸ hg)) (fun e => hn (hV k e)), fun k hk => hk.elim .inl (fun h => .inr h.1)⟩
    · exact hg3.os.trans hbel.os
    · exact hg3.tape.trans hbel.tape
    · exact hg3.output.trans hbel.output
theorem rpush_long {w : World} {B g room : Nat} {ms : List (List Nat)} {F : Nat → Prop} (h : RQu w B g room ms F) (A : Option Addr) (n c : Nat) (hn : 64 < n) :
    Calls Try.prog 64 #[.pointer (some ⟨g, 0, none⟩), .slice A n c] w fun e w' => e = .returned (.int .i64 2) ∧ w = w' := by
  clear h
  go_enter Try.func64, Try.ntmps64
  go_wp2
  go_ret
  exact ⟨rfl, rfl⟩
theorem rpush_full {w : World} {B g room : Nat} {ms : List (List Nat)} {F : Nat → Prop} (h : RQu w B g room ms F) (A : Option Addr) (n c : Nat) (hn : n ≤ 64) (hfull : room ≤ ms.length) :
    Calls Try.prog 64 #[.pointer (some ⟨g, 0, none⟩), .slice A n c] w fun e w' => e = .returned (.int .i64 3) ∧ ∃ n, w' = w.drewN n := by
  obtain ⟨_, _, ⟨r1, r2, r3⟩, hsm, V, cV, vs, hb, _⟩ := h
  have c0 : w.cell? ⟨g, 0, none⟩ = some (.int .i64 (room : Nat)) := hb.cell rfl
  have c1 : w.cell? ⟨g, 1, none⟩ = some (.slice V ms.length cV) := hb.cell rfl
  have h64 : ¬ (64 : Int) < (n : Int) := by omega
  have hfl : (room : Int) ≤ (ms.length : Int) := by omega
  clear hb hsm r1 r2 r3 hn hfull
  go_enter Try.func64, Try.ntmps64
  go_wp2
  go_quiet (fail)
  go_wp2
  go_ret
  exact ⟨rfl, _, rfl⟩
set_option maxRecDepth 100000 in
set_option maxHeartbeats 1000000 in
theorem rpush_in {w : World} {B g room : Nat} {ms : List (List Nat)} {F : Nat → Prop} (h : RQu w B g room ms F) (A : Option Addr) (c : Nat) (m : List Nat) (hA : Rd w.heap.size w A (u8s m)) (hn : m.length ≤ 64) (hlt : ms.length < room) :
    Calls Try.prog 64 #[.pointer (some ⟨g, 0, none⟩), .slice A m.length c] w fun e w' => ∃ F', e = .returned (.int .i64 0) ∧ RQu w' B g room (ms ++ [m]) F' ∧ Turn F F' w w' := by
  obtain ⟨i0, hi, hz0, hz1, hz2⟩ := info_parts Try.infB
  obtain ⟨hF, hg, ⟨r1, r2, r3⟩, hsm, V, cV, vs, hb, ho, hV, ht, hd⟩ := h
  have HPU := hide (fun (w1 w3 : World) (v : Value) (A' : Option Addr) (c' : Nat) => rqu_pushed (w1 := w1) (w3 := w3) (v := v) (m := m) (A' := A') (c' := c') hF hg ⟨r1, r2, r3⟩ hsm hb ho hV ht hd hlt hn)
  have HB := hide hb
  have HO := hide ho
  have c0 : w.cell? ⟨g, 0, none⟩ = some (.int .i64 (room : Nat)) := hb.cell rfl
  have c1 : w.cell? ⟨g, 1, none⟩ = some (.slice V ms.length cV) := hb.cell rfl
  have h64 : ¬ (64 : Int) < (m.length : Int) := by omega
  have hfl : ¬ (room : Int) ≤ (ms.length : Int) := by omega
  have HA := hide hA
  have g1 : ms.length + 1 ≤ 9223372036854775807 := by omega
  have g2 : (ms.length + 1) * 24 ≤ 140737488355328 := by omega
  have HGL := hide hb.lt
  have HM := hide hn
  clear hb ho hV ht hd hsm r1 r2 r3 hn hlt hA hF hg
  go_enter Try.func64, Try.ntmps64
  go_wp2
  go_quiet (fail)
  obtain ⟨wq, hwq⟩ : ∃ wq, wq = w.drewN nq := ⟨_, rfl⟩
  rw [← hwq]
  have HBQ : Hid (Blk wq.drew g 116 [.int .i64 (room : Nat), .slice V ms.length cV]) := by show Blk wq.drew _ _ _; rw [hwq]; exact HB.out
  have HOQ : Hid (wq.drew.ownsRow (g + 1) 34 1 (.slice V ms.length cV) ms.length vs) := by show wq.drew.ownsRow _ _ _ _ _ _; rw [hwq]; exact HO.out
  have d1 : wq.cell? ⟨g, 1, none⟩ = some (.slice V ms.length cV) := by rw [hwq]; exact c1
  have HCL := hide (show Calls Try.prog 55 #[.slice A m.length c] wq.drew (NewT m wq.drew) from copy_u8 A c m (by have := HM.out; omega) wq.drew (by rw [hwq]; exact HA.out))
  have HGQ : Hid (g + 1 ≤ wq.drew.heap.size) := by show _ ≤ _; rw [hwq]; exact HGL.out
  have HWQ := hide hwq
  clear hwq c0 c1
  go_wp2
  go_region_law (first
    | (refine step_app1 w2 (by rfl) (.tmp 24) (.tmp 27) 75 (by rfl) (g + 1) 34 i0 (.slice none 0 0) 24 Try.underlying75 hi hz0 hz1 hz2 (by rfl) (.slice V ms.length cV) ms.length vs (by rfl) (own_on HOQ.out hq1) (.slice A1 m.length c1) (by rfl) (by rfl) g1 g2 (Nat.le_trans HGQ.out hq1.size) ?_; intro v' w3 hown1 hg1 hat1; obtain ⟨A', c', rfl, _⟩ := own_val hown1; have hb3 := (HBQ.out.on hq1).grown hg1 (fun e => by have := (own_block_lt HOQ.out e.symm).1; omega); have e3 : w3.cell? ⟨g, 1, none⟩ = some (.slice V ms.length cV) := hb3.cell rfl; have f3 : w3.frozen? ⟨g, 1, none⟩ = false := hb3.free 1)
    | (go_simp; go_at_call 55; (with_reducible refine HCL.out.mono ?_); rintro e w2 ⟨A1, c1, rfl, hq0, hq1⟩; have d2 : w2.cell? ⟨g, 1, none⟩ = some (.slice V ms.length cV) := (HBQ.out.on hq1).cell rfl; have d2a : ∀ o : Obj, (w2.alloc o).cell? ⟨g, 1, none⟩ = some (.slice V ms.length cV) := fun o => ((HBQ.out.on hq1).alloc o).cell rfl))
  all_goals
    go_wp2
    go_ret
    have hb0 : Below w.heap.size w wq.drew := by rw [HWQ.out]; exact (below_drewN (Below.refl _ _) nq).drew
    have hs : wq.drew.heap.size = w.heap.size := by rw [HWQ.out]; rfl
    rw [hs] at hq0
    have h := HPU.out w2 w3 (.slice A1 m.length c1) A' c' (below2 hb0 hq1 (Nat.le_refl _)) hq0 hown1 hg1 hat1
    exact ⟨_, rfl, h.1, h.2⟩
end Go.Proofs.Ytnbhgeodbpelgaa
