/- Layer 19's queue, by what it does in memory: Push. No conditions. -/
import Derived.Test.YtnbhgeodbpelgaaQueC
namespace Go.Proofs.Ytnbhgeodbpelgaa
open Go.RowKit
set_option linter.unusedVariables false

/-- what pushing tells, and leaves. -/
def pushE (room : Nat) (ms : List (List Nat)) (m : List Nat) : Nat := if 64 < m.length then 2 else if room ≤ ms.length then 3 else 0
def pushL (room : Nat) (ms : List (List Nat)) (m : List Nat) : List (List Nat) := if 64 < m.length then ms else if room ≤ ms.length then ms else ms ++ [m]
/-- the blocks, and those that are new. -/
def more (F : Nat → Prop) (w w' : World) (k : Nat) : Prop := F k ∨ (w.heap.size ≤ k ∧ k < w'.heap.size)
theorem ring_slot {ms : List (List Nat)} {f n i j : Nat} (hf : f < 16) (hi : i < n) (hn : n < 16) : (f + i) % 16 ≠ (f + n) % 16 := by omega
/-- the queue behind the store of a new text, and the count. -/
theorem qu_pushed {w w1 : World} {B g room : Nat} {ms : List (List Nat)} {F : Nat → Prop} {m : List Nat} {f : Nat} {ring : List Value} {v : Value}
    (hF : Foot F B w) (hg : F g) (hr : 1 ≤ room ∧ room ≤ 16 ∧ ms.length ≤ room) (hsm : ∀ m ∈ ms, m.length ≤ 64) (hf : f < 16) (hrl : ring.length = 16)
    (hb : Blk w g 141 (.int .i64 (room : Nat) :: .int .i64 (f : Nat) :: .int .i64 (ms.length : Nat) :: ring))
    (hx : ∀ (i : Nat) m, ms[i]? = some m → ∃ v, ring[(f + i) % 16]? = some v ∧ Tx w v m ∧ (∀ k, v.ownBlock = some k → F k ∧ k ≠ g))
    (hlt : ms.length < room) (hml : m.length ≤ 64) (hbel : Below w.heap.size w w1) (hown : w1.ownsRow w.heap.size 5 1 v m.length (u8s m)) :
    let w2 := (w1.setCell ⟨g, 3 + (f + ms.length) % 16, none⟩ v).setCell ⟨g, 2, none⟩ (.int .i64 (ms.length + 1 : Nat))
    Qu w2 B g room (ms ++ [m]) (more F w w2) ∧ Turn F (more F w w2) w w2 := by
  intro w2
  have hgl := hb.lt
  have hs2 : w2.heap.size = w1.heap.size := by simp [w2, World.setCell]
  have hbs := hbel.size
  have hb1 : Blk w1 g _ _ := hb.on hbel
  have hb2 := (hb1.set (3 + (f + ms.length) % 16) v).set 2 (.int .i64 (ms.length + 1 : Nat))
  have hfar : ∀ k, k ≠ g → w2.heap[k]? = w1.heap[k]? := fun k hk => (Below.heap_setCell (w1.setCell ⟨g, 3 + (f + ms.length) % 16, none⟩ v) ⟨g, 2, none⟩ _ k hk).trans (Below.heap_setCell w1 ⟨g, 3 + (f + ms.length) % 16, none⟩ v k hk)
  refine ⟨⟨?_, .inl hg, ⟨hr.1, hr.2.1, by simp; omega⟩, ?_, f, ring.set ((f + ms.length) % 16) v, hf, by simp [hrl], ?_, ?_⟩, ?_⟩
  · rintro k (hk | hk)
    · have := hF k hk; omega
    · have := hF g hg; omega
  · intro x hx
    rcases List.mem_append.1 hx with h | h
    · exact hsm x h
    · simp at h; subst h; exact hml
  · have e : ((Value.int .i64 (room : Nat) :: .int .i64 (f : Nat) :: .int .i64 (ms.length : Nat) :: ring).set (3 + (f + ms.length) % 16) v).set 2 (.int .i64 (ms.length + 1 : Nat)) = Value.int .i64 (room : Nat) :: .int .i64 (f : Nat) :: .int .i64 (ms.length + 1 : Nat) :: ring.set ((f + ms.length) % 16) v := by rw [Nat.add_comm 3]; rfl
    rw [e] at hb2
    simp only [List.length_append, List.length_singleton]
    exact hb2
  · intro i x hi
    by_cases hil : i < ms.length
    · rw [List.getElem?_append_left hil] at hi
      obtain ⟨u, hu, ht, ho⟩ := hx i x hi
      refine ⟨u, by rw [List.getElem?_set_ne (ring_slot (ms := ms) (j := 0) hf hil (by omega)).symm]; exact hu, ?_, fun k hk => ⟨.inl (ho k hk).1, (ho k hk).2⟩⟩
      exact ht.kept (fun k hk => (hfar k (ho k hk).2).trans (hbel.block k ((hF k (ho k hk).1).2))) (by omega)
    · have hl := (List.getElem?_eq_some_iff.1 hi).1
      simp at hl
      obtain rfl : i = ms.length := by omega
      obtain rfl : m = x := by simpa using hi
      refine ⟨v, List.getElem?_set_self (by rw [hrl]; omega), ?_, ?_⟩
      · obtain ⟨A, c, rfl, _⟩ := own_val hown
        refine (own_tx hown).kept (fun k hk => hfar k ?_) (by omega)
        have := own_block_lt hown hk; omega
      · intro k hk
        have := own_block_lt hown hk
        exact ⟨.inr (by omega), by omega⟩
  · refine ⟨hbel.os, hbel.tape, hbel.output, by omega, fun k hk hn => ?_, fun k hk => hk.elim .inl (fun h => .inr h.1)⟩
    exact (hfar k (fun e => hn (e ▸ hg))).trans (hbel.block k hk)
theorem push_long {w : World} {B g room : Nat} {ms : List (List Nat)} {F : Nat → Prop} (h : Qu w B g room ms F) (A : Option Addr) (n c : Nat) (hn : 64 < n) :
    Calls Try.prog 62 #[.pointer (some ⟨g, 0, none⟩), .slice A n c] w fun e w' => e = .returned (.int .i64 2) ∧ w = w' := by
  obtain ⟨_, _, ⟨r1, r2, r3⟩, hsm, f, ring, hf, hrl, hb, hx⟩ := h
  have c0 : w.cell? ⟨g, 0, none⟩ = some (.int .i64 (room : Nat)) := hb.cell rfl
  have t0 : ((room : Int) == 0) = false := by simp; omega
  clear hb hx hsm hf hrl r1 r2 r3
  go_enter Try.func62, Try.ntmps62
  go_wp2
  go_ret
  exact ⟨rfl, rfl⟩
theorem push_full {w : World} {B g room : Nat} {ms : List (List Nat)} {F : Nat → Prop} (h : Qu w B g room ms F) (A : Option Addr) (n c : Nat) (hn : n ≤ 64) (hfull : room ≤ ms.length) :
    Calls Try.prog 62 #[.pointer (some ⟨g, 0, none⟩), .slice A n c] w fun e w' => e = .returned (.int .i64 3) ∧ ∃ n, w' = w.drewN n := by
  obtain ⟨_, _, ⟨r1, r2, r3⟩, hsm, f, ring, hf, hrl, hb, hx⟩ := h
  have c0 : w.cell? ⟨g, 0, none⟩ = some (.int .i64 (room : Nat)) := hb.cell rfl
  have c2 : w.cell? ⟨g, 2, none⟩ = some (.int .i64 (ms.length : Nat)) := hb.cell rfl
  have t0 : ((room : Int) == 0) = false := by simp; omega
  have h64 : ¬ (64 : Int) < (n : Int) := by omega
  have hfl : (room : Int) ≤ (ms.length : Int) := by omega
  clear hb hx hsm hf hrl r1 r2 r3 hn hfull
  go_enter Try.func62, Try.ntmps62
  go_wp2
  go_quiet (fail)
  go_wp2
  go_ret
  exact ⟨rfl, _, rfl⟩
set_option maxHeartbeats 1000000 in
theorem push_in {w : World} {B g room : Nat} {ms : List (List Nat)} {F : Nat → Prop} (h : Qu w B g room ms F) (A : Option Addr) (c : Nat) (m : List Nat) (hA : Rd w.heap.size w A (u8s m)) (hn : m.length ≤ 64) (hlt : ms.length < room) :
    Calls Try.prog 62 #[.pointer (some ⟨g, 0, none⟩), .slice A m.length c] w fun e w' => ∃ F', e = .returned (.int .i64 0) ∧ Qu w' B g room (ms ++ [m]) F' ∧ Turn F F' w w' := by
  have hq := h
  obtain ⟨hF, hg, ⟨r1, r2, r3⟩, hsm, f, ring, hf, hrl, hb, hx⟩ := h
  have HPU := hide (fun w1 v => qu_pushed (w1 := w1) (v := v) (m := m) hF hg ⟨r1, r2, r3⟩ hsm hf hrl hb hx hlt hn)
  have HB := hide hb
  have c0 : w.cell? ⟨g, 0, none⟩ = some (.int .i64 (room : Nat)) := hb.cell rfl
  have c2 : w.cell? ⟨g, 2, none⟩ = some (.int .i64 (ms.length : Nat)) := hb.cell rfl
  have t0 : ((room : Int) == 0) = false := by simp; omega
  have h64 : ¬ (64 : Int) < (m.length : Int) := by omega
  have hfl : ¬ (room : Int) ≤ (ms.length : Int) := by omega
  have HA := hide hA
  have HF := hide hf
  have HRL := hide hrl
  have hn16 : ms.length ≤ 15 := by omega
  have hgl := hb.lt
  have HGL := hide hgl
  have HM := hide hn
  clear hb hx hsm hf hrl r1 r2 r3 hn hlt hA hq hF hg hgl
  go_enter Try.func62, Try.ntmps62
  go_wp2
  go_quiet (fail)
  obtain ⟨wq, hwq⟩ : ∃ wq, wq = w.drewN nq := ⟨_, rfl⟩
  rw [← hwq]
  obtain ⟨k, hk⟩ : ∃ k, k = (f + ms.length) % 16 := ⟨_, rfl⟩
  have hk16 : (k : Int) < 16 := by omega
  have hk0 : (0 : Int) ≤ (k : Int) := by omega
  have HBQ : Hid (Blk wq.drew g 141 (.int .i64 (room : Nat) :: .int .i64 (f : Nat) :: .int .i64 (ms.length : Nat) :: ring)) := by show Blk wq.drew _ _ _; rw [hwq]; exact HB.out
  have d2 : wq.cell? ⟨g, 2, none⟩ = some (.int .i64 (ms.length : Nat)) := by rw [hwq]; exact c2
  have HPL := hide (show Calls Try.prog 91 #[.pointer (some ⟨g, 0, none⟩), .int .i64 (ms.length : Nat)] wq.drew fun e w' => e = .returned (.int .i64 ((f + ms.length) % 16 : Nat)) ∧ wq.drew = w' from que_place (w := wq.drew) HF.out (HBQ.out.cell (i := 1) rfl) ms.length (by omega))
  rw [← hk] at HPL
  have HCL := hide (show Calls Try.prog 90 #[.slice A m.length c] wq.drew (NewT m wq.drew) from clone_u8 A c m (by have := HM.out; omega) wq.drew (by rw [hwq]; exact HA.out))
  obtain ⟨u, hu⟩ : ∃ u, ring[k]? = some u := ⟨_, List.getElem?_eq_getElem (by rw [HRL.out]; omega)⟩
  have HU := hide hu
  clear hu
  have HK := hide hk
  have HWQ := hide hwq
  clear hwq hk c0 c2
  go_wp2
  go_region_held3 (fun w' => w'.cell? ⟨g, 2, none⟩ = some (.int .i64 (ms.length : Nat)) ∧ w'.frozen? ⟨g, 3 + k, none⟩ = false) (first | exact ⟨(HBQ.out.on hq1).cell rfl, (HBQ.out.on hq1).free _⟩ | exact ⟨((HBQ.out.on hq1).set (3 + k) _).cell (i := 2) (by rw [Nat.add_comm 3 k]; rfl), ((HBQ.out.on hq1).set (3 + k) _).free _⟩ | exact ⟨HBQ.out.cell rfl, HBQ.out.free _⟩ | go_keep)
    ((first
      | (go_at_call 91; (with_reducible refine HPL.out.mono ?_); rintro e w' ⟨rfl, rfl⟩)
      | (go_at_call 90; (with_reducible refine HCL.out.mono ?_); rintro e wq1 ⟨A1, c1, rfl, hq0, hq1⟩; have f3 : wq1.frozen? ⟨g, 3 + k, none⟩ = false := (HBQ.out.on hq1).free _; have d3 : wq1.cell? ⟨g, 3 + k, none⟩ = some u := by rw [Nat.add_comm]; exact (HBQ.out.on hq1).cell (i := k + 3) HU.out)))
  have HB3 := hide ((HBQ.out.on hq1).set (3 + k) (.slice A1 m.length c1))
  have d2' : (wq1.setCell ⟨g, 3 + k, none⟩ (.slice A1 m.length c1)).cell? ⟨g, 2, none⟩ = some (.int .i64 (ms.length : Nat)) := HB3.out.cell (i := 2) (by rw [Nat.add_comm 3 k]; rfl)
  have f2' : (wq1.setCell ⟨g, 3 + k, none⟩ (.slice A1 m.length c1)).frozen? ⟨g, 2, none⟩ = false := HB3.out.free 2
  go_wp2
  go_ret
  have hb0 : Below w.heap.size w wq.drew := by rw [HWQ.out]; exact (below_drewN (Below.refl _ _) nq).drew
  have hs : wq.drew.heap.size = w.heap.size := by rw [HWQ.out]; rfl
  rw [hs] at hq0
  have h := HPU.out wq1 (.slice A1 m.length c1) (below2 hb0 hq1 (Nat.le_refl _)) hq0
  have e : ((ms.length + 1 : Nat) : Int) = (ms.length : Int) + 1 := by omega
  rw [← HK.out, e] at h
  exact ⟨_, rfl, h.1, h.2⟩
theorem que_push {w : World} {B g room : Nat} {ms : List (List Nat)} {F : Nat → Prop} (h : Qu w B g room ms F) (A : Option Addr) (c : Nat) (m : List Nat) (hA : Rd w.heap.size w A (u8s m)) :
    Calls Try.prog 62 #[.pointer (some ⟨g, 0, none⟩), .slice A m.length c] w fun e w' => ∃ F', e = .returned (.int .i64 (pushE room ms m : Nat)) ∧ Qu w' B g room (pushL room ms m) F' ∧ Turn F F' w w' := by
  unfold pushE pushL
  by_cases h1 : 64 < m.length
  · rw [if_pos h1, if_pos h1]
    refine (push_long h A _ c h1).mono ?_
    rintro e w' ⟨rfl, rfl⟩
    exact ⟨F, rfl, h, Turn.refl F w⟩
  · rw [if_neg h1, if_neg h1]
    by_cases h2 : room ≤ ms.length
    · rw [if_pos h2, if_pos h2]
      refine (push_full h A _ c (by omega) h2).mono ?_
      rintro e w' ⟨rfl, n, rfl⟩
      exact ⟨F, rfl, h.drewN n, (Turn.refl F w).drewN n⟩
    · rw [if_neg h2, if_neg h2]
      exact push_in h A c m hA (by omega) (by omega)
end Go.Proofs.Ytnbhgeodbpelgaa
