/- Layer 19's queue, by what it does in memory: Pop. No conditions. -/
import Derived.Test.YtnbhgeodbpelgaaQueD
namespace Go.Proofs.Ytnbhgeodbpelgaa
open Go.RowKit
set_option linter.unusedVariables false

/-- what popping tells, and leaves. -/
def PopR (w : World) (B g room : Nat) (ms : List (List Nat)) (F : Nat → Prop) (e : Ending) (w' : World) : Prop :=
  ∃ A c, e = .returned (.tuple #[.slice A (ms[0]?.getD []).length c, .bool ms[0]?.isSome]) ∧ w'.ownsRow w.heap.size 5 1 (.slice A (ms[0]?.getD []).length c) (ms[0]?.getD []).length (u8s (ms[0]?.getD [])) ∧
    Qu w' B g room ms.tail F ∧ Turn F F w w'
theorem qu_popped {w w1 : World} {B g room : Nat} {m : List Nat} {ms : List (List Nat)} {F : Nat → Prop} {f : Nat} {ring : List Value}
    (hF : Foot F B w) (hg : F g) (hr : 1 ≤ room ∧ room ≤ 16 ∧ (m :: ms).length ≤ room) (hsm : ∀ x ∈ m :: ms, x.length ≤ 64) (hf : f < 16) (hrl : ring.length = 16)
    (hb : Blk w g 141 (.int .i64 (room : Nat) :: .int .i64 (f : Nat) :: .int .i64 ((m :: ms).length : Nat) :: ring))
    (hx : ∀ (i : Nat) x, (m :: ms)[i]? = some x → ∃ v, ring[(f + i) % 16]? = some v ∧ Tx w v x ∧ (∀ k, v.ownBlock = some k → F k ∧ k ≠ g))
    (hbel : Below w.heap.size w w1) :
    let w2 := ((w1.setCell ⟨g, 3 + f, none⟩ (.slice none 0 0)).setCell ⟨g, 1, none⟩ (.int .i64 ((f + 1) % 16 : Nat))).setCell ⟨g, 2, none⟩ (.int .i64 (ms.length : Nat))
    Qu w2 B g room ms F ∧ Turn F F w w2 ∧ (∀ k, k ≠ g → w2.heap[k]? = w1.heap[k]?) := by
  intro w2
  have hgl := hb.lt
  have hs2 : w2.heap.size = w1.heap.size := by simp [w2, World.setCell]
  have hbs := hbel.size
  have hb1 : Blk w1 g _ _ := hb.on hbel
  have hb2 := ((hb1.set (3 + f) (.slice none 0 0)).set 1 (.int .i64 ((f + 1) % 16 : Nat))).set 2 (.int .i64 (ms.length : Nat))
  have hfar : ∀ k, k ≠ g → w2.heap[k]? = w1.heap[k]? := fun k hk =>
    ((Below.heap_setCell ((w1.setCell ⟨g, 3 + f, none⟩ (.slice none 0 0)).setCell ⟨g, 1, none⟩ (.int .i64 ((f + 1) % 16 : Nat))) ⟨g, 2, none⟩ _ k hk).trans
      (Below.heap_setCell (w1.setCell ⟨g, 3 + f, none⟩ (.slice none 0 0)) ⟨g, 1, none⟩ _ k hk)).trans (Below.heap_setCell w1 ⟨g, 3 + f, none⟩ _ k hk)
  refine ⟨⟨hF.on (by omega), hg, ⟨hr.1, hr.2.1, by have := hr.2.2; simp at this; omega⟩, fun x h => hsm x (List.mem_cons_of_mem _ h), (f + 1) % 16, ring.set f (.slice none 0 0), by omega, by simp [hrl], ?_, ?_⟩, ?_, hfar⟩
  · have e : (((Value.int .i64 (room : Nat) :: .int .i64 (f : Nat) :: .int .i64 ((m :: ms).length : Nat) :: ring).set (3 + f) (.slice none 0 0)).set 1 (.int .i64 ((f + 1) % 16 : Nat))).set 2 (.int .i64 (ms.length : Nat)) = Value.int .i64 (room : Nat) :: .int .i64 ((f + 1) % 16 : Nat) :: .int .i64 (ms.length : Nat) :: ring.set f (.slice none 0 0) := by rw [Nat.add_comm 3]; rfl
    rw [e] at hb2
    exact hb2
  · intro i x hi
    obtain ⟨u, hu, ht, ho⟩ := hx (i + 1) x (by simpa using hi)
    have hil := (List.getElem?_eq_some_iff.1 hi).1
    have hl2 := hr.2.2
    simp at hl2
    refine ⟨u, ?_, ht.kept (fun k hk => (hfar k (ho k hk).2).trans (hbel.block k ((hF k (ho k hk).1).2))) (by omega), ho⟩
    rw [List.getElem?_set_ne (by omega), show ((f + 1) % 16 + i) % 16 = (f + (i + 1)) % 16 by omega]
    exact hu
  · refine ⟨hbel.os, hbel.tape, hbel.output, by omega, fun k hk hn => ?_, fun k hk => .inl hk⟩
    exact (hfar k (fun e => hn (e ▸ hg))).trans (hbel.block k hk)
theorem pop_none {w : World} {B g room : Nat} {F : Nat → Prop} (h : Qu w B g room [] F) :
    Calls Try.prog 83 #[.pointer (some ⟨g, 0, none⟩)] w (PopR w B g room [] F) := by
  have HF := hide (que_front h)
  have HQ := hide h
  clear h
  go_enter Try.func83, Try.ntmps83
  go_wp2_with fail
  refine HF.out.mono ?_; rintro e w1 ⟨A, c, rfl, h1, h2⟩
  go_wp2
  go_ret2
  exact ⟨A, c, rfl, h1, HQ.out.on h2, Turn.of_below h2⟩
set_option maxHeartbeats 1000000 in
theorem pop_some {w : World} {B g room : Nat} {m : List Nat} {ms : List (List Nat)} {F : Nat → Prop} (h : Qu w B g room (m :: ms) F) :
    Calls Try.prog 83 #[.pointer (some ⟨g, 0, none⟩)] w (PopR w B g room (m :: ms) F) := by
  have HFR := hide (que_front h)
  obtain ⟨hF, hg, ⟨r1, r2, r3⟩, hsm, f, ring, hf, hrl, hb, hx⟩ := h
  have HPO := hide (fun w1 => qu_popped (w1 := w1) hF hg ⟨r1, r2, r3⟩ hsm hf hrl hb hx)
  have HB := hide hb
  have HGN := hide (fun k (hk : w.heap.size ≤ k) => show k ≠ g by have := hb.lt; omega)
  have HF := hide hf
  have hf16 : (f : Int) < 16 := by omega
  have hf0 : (0 : Int) ≤ (f : Int) := by omega
  obtain ⟨u, hu⟩ : ∃ u, ring[f]? = some u := ⟨_, List.getElem?_eq_getElem (by omega)⟩
  have HU := hide hu
  have hmsl : ms.length ≤ 15 := by simp at r3; omega
  clear hb hx hsm hf hrl r1 r2 r3 hF hg hu
  go_enter Try.func83, Try.ntmps83
  go_wp2_with fail
  refine HFR.out.mono ?_; rintro e w1 ⟨A, c, rfl, ho1, hb1⟩
  have HB1 := hide (HB.out.on hb1)
  have HBE := hide hb1
  have HOW := hide ho1
  have c1 : w1.cell? ⟨g, 1, none⟩ = some (.int .i64 (f : Nat)) := HB1.out.cell rfl
  have c3 : w1.cell? ⟨g, 3 + f, none⟩ = some u := by rw [Nat.add_comm]; exact HB1.out.cell (i := f + 3) HU.out
  have f3 : w1.frozen? ⟨g, 3 + f, none⟩ = false := HB1.out.free _
  clear hb1 ho1
  go_wp2
  go_region
  obtain ⟨wq, hwq⟩ : ∃ wq, wq = (w1.setCell ⟨g, 3 + f, none⟩ (.slice none 0 0)).drew := ⟨_, rfl⟩
  rw [← hwq]
  have HBQ : Hid (Blk wq g 141 ((.int .i64 (room : Nat) :: .int .i64 (f : Nat) :: .int .i64 ((m :: ms).length : Nat) :: ring).set (3 + f) (.slice none 0 0))) := by show Blk wq _ _ _; rw [hwq]; exact (HB1.out.set (3 + f) (.slice none 0 0)).drew
  have hs3 : ((.int .i64 (room : Nat) :: .int .i64 (f : Nat) :: .int .i64 ((m :: ms).length : Nat) :: ring).set (3 + f) (.slice none 0 0)) = Value.int .i64 (room : Nat) :: .int .i64 (f : Nat) :: .int .i64 ((m :: ms).length : Nat) :: ring.set f (.slice none 0 0) := by rw [Nat.add_comm 3]; rfl
  rw [hs3] at HBQ
  have d1 : wq.cell? ⟨g, 1, none⟩ = some (.int .i64 (f : Nat)) := HBQ.out.cell rfl
  have d2 : wq.cell? ⟨g, 2, none⟩ = some (.int .i64 ((m :: ms).length : Nat)) := HBQ.out.cell rfl
  have f1 : wq.frozen? ⟨g, 1, none⟩ = false := HBQ.out.free _
  have f2 : wq.frozen? ⟨g, 2, none⟩ = false := HBQ.out.free _
  have HPL := hide (que_place HF.out d1 1 (by omega))
  have HWQ := hide hwq
  rw [List.length_cons] at d2
  clear hwq c1 c3 f3 hs3
  go_wp2_with fail
  refine HPL.out.mono ?_; rintro e w' ⟨rfl, rfl⟩
  go_wp2
  go_ret2
  have h := HPO.out w1 HBE.out
  rw [show (((f + 1) % 16 : Nat) : Int) = ((f : Int) + 1) % 16 by omega] at h
  have ho : ∀ w2 : World, (∀ k, k ≠ g → w2.heap[k]? = w1.heap[k]?) → w2.ownsRow w.heap.size 5 1 (.slice A ((m :: ms)[0]?.getD []).length c) ((m :: ms)[0]?.getD []).length (u8s ((m :: ms)[0]?.getD [])) :=
    fun w2 h2 => own_keep HOW.out fun k hk => h2 k (HGN.out k (own_block_lt HOW.out hk).1)
  rw [HWQ.out]
  exact ⟨A, c, rfl, ho _ h.2.2, h.1, h.2.1.drew⟩
theorem que_pop {w : World} {B g room : Nat} {ms : List (List Nat)} {F : Nat → Prop} (h : Qu w B g room ms F) :
    Calls Try.prog 83 #[.pointer (some ⟨g, 0, none⟩)] w (PopR w B g room ms F) := by
  cases ms with
  | nil => exact pop_none h
  | cons m ms => exact pop_some h
end Go.Proofs.Ytnbhgeodbpelgaa
