/- Layer 19's queue, by what it does in memory: New, place, Len, Free, At, Front. No conditions. -/
import Derived.Test.YtnbhgeodbpelgaaQueA
import Derived.Deep.RegionHeld3
namespace Go.Proofs.Ytnbhgeodbpelgaa
open Go.RowKit
set_option linter.unusedVariables false

/-- the program's queue, in block g: room, and its messages; F holds its blocks. -/
def Qu (w : World) (B g room : Nat) (ms : List (List Nat)) (F : Nat → Prop) : Prop :=
  Foot F B w ∧ F g ∧ (1 ≤ room ∧ room ≤ 16 ∧ ms.length ≤ room) ∧ (∀ m ∈ ms, m.length ≤ 64) ∧
  ∃ f ring, f < 16 ∧ ring.length = 16 ∧ Blk w g 141 (.int .i64 (room : Nat) :: .int .i64 (f : Nat) :: .int .i64 (ms.length : Nat) :: ring) ∧
    ∀ (i : Nat) m, ms[i]? = some m → ∃ v, ring[(f + i) % 16]? = some v ∧ Tx w v m ∧ (∀ k, v.ownBlock = some k → F k ∧ k ≠ g)
section
variable {w w' : World} {B g room : Nat} {ms : List (List Nat)} {F : Nat → Prop}
theorem Qu.kept (h : Qu w B g room ms F) (hk : ∀ k, F k → w'.heap[k]? = w.heap[k]?) (hs : w.heap.size ≤ w'.heap.size) : Qu w' B g room ms F := by
  obtain ⟨hf, hg, hr, hm, f, ring, h1, h2, hb, hx⟩ := h
  exact ⟨hf.on hs, hg, hr, hm, f, ring, h1, h2, hb.kept (hk g hg), fun i m hi => by
    obtain ⟨v, hv, ht, ho⟩ := hx i m hi
    exact ⟨v, hv, ht.kept (fun k e => hk k (ho k e).1) hs, ho⟩⟩
theorem Qu.on (h : Qu w B g room ms F) (hb : Below w.heap.size w w') : Qu w' B g room ms F := h.kept (below_kept hb h.1) hb.size
theorem Qu.drewN (h : Qu w B g room ms F) (n : Nat) : Qu (w.drewN n) B g room ms F := h
end
theorem que_new (r : Int) (hr : 1 ≤ r) (hr2 : r ≤ 16) (w : World) : Calls Try.prog 56 #[.int .i64 r] w fun e w' => ∃ g F, e = .returned (.tuple #[.pointer (some ⟨g, 0, none⟩), .int .i64 0]) ∧ Qu w' w.heap.size g r.toNat [] F ∧ Below w.heap.size w w' := by
  obtain ⟨r, rfl⟩ := Int.eq_ofNat_of_zero_le (show 0 ≤ r by omega)
  have h1 : ¬ (r : Int) < 1 := by omega
  go_enter Try.func56, Try.ntmps56
  go_wp2
  go_ret2
  refine ⟨_, rfl, ⟨fun k => k = w.heap.size, ⟨?_, rfl, ⟨by omega, by omega, by simp⟩, by simp, 0, List.replicate 16 (.slice none 0 0), by omega, by simp, Blk.new w _ _, by simp⟩⟩, (Below.refl _ _).alloc (Nat.le_refl _) _⟩
  rintro k rfl
  exact ⟨Nat.le_refl _, (Blk.new w _ _).lt⟩
theorem que_bad (r : Int) (hr : r < 1 ∨ 16 < r) (w : World) : Calls Try.prog 56 #[.int .i64 r] w fun e w' => e = .returned (.tuple #[.pointer none, .int .i64 1]) ∧ w = w' := by
  rcases hr with h | h
  · go_enter Try.func56, Try.ntmps56
    go_wp2
    go_ret2
    exact ⟨rfl, rfl⟩
  · have h1 : ¬ (r : Int) < 1 := by omega
    go_enter Try.func56, Try.ntmps56
    go_wp2
    go_ret2
    exact ⟨rfl, rfl⟩
theorem que_place {w : World} {g f : Nat} (hf : f < 16) (h1 : w.cell? ⟨g, 1, none⟩ = some (.int .i64 (f : Nat))) (i : Nat) (hi : i ≤ 16) :
    Calls Try.prog 91 #[.pointer (some ⟨g, 0, none⟩), .int .i64 (i : Nat)] w fun e w' => e = .returned (.int .i64 ((f + i) % 16 : Nat)) ∧ w = w' := by
  go_enter Try.func91, Try.ntmps91
  go_wp2
  go_ret
  exact ⟨by congr 2, rfl⟩
theorem que_len {w : World} {B g room : Nat} {ms : List (List Nat)} {F : Nat → Prop} (h : Qu w B g room ms F) :
    Calls Try.prog 61 #[.pointer (some ⟨g, 0, none⟩)] w fun e w' => e = .returned (.int .i64 (ms.length : Nat)) ∧ w = w' := by
  obtain ⟨_, _, _, _, f, ring, _, _, hb, _⟩ := h
  have c2 : w.cell? ⟨g, 2, none⟩ = some (.int .i64 (ms.length : Nat)) := hb.cell rfl
  clear hb
  go_enter Try.func61, Try.ntmps61
  go_wp2
  go_ret
  exact ⟨rfl, rfl⟩
theorem que_free {w : World} {B g room : Nat} {ms : List (List Nat)} {F : Nat → Prop} (h : Qu w B g room ms F) :
    Calls Try.prog 100 #[.pointer (some ⟨g, 0, none⟩)] w fun e w' => e = .returned (.int .i64 (room - ms.length : Nat)) ∧ ∃ n, w' = w.drewN n := by
  obtain ⟨_, _, ⟨h1, h2, h3⟩, _, f, ring, _, _, hb, _⟩ := h
  have c0 : w.cell? ⟨g, 0, none⟩ = some (.int .i64 (room : Nat)) := hb.cell rfl
  have c2 : w.cell? ⟨g, 2, none⟩ = some (.int .i64 (ms.length : Nat)) := hb.cell rfl
  clear hb
  go_enter Try.func100, Try.ntmps100
  go_wp2
  go_quiet (fail)
  go_wp2
  go_ret
  exact ⟨ret_i (by omega), _, rfl⟩
/-! ### nil ones -/
theorem nil_len (w : World) : Calls Try.prog 61 #[.pointer none] w fun e w' => e = .returned (.int .i64 0) ∧ w = w' := by
  go_enter Try.func61, Try.ntmps61
  go_wp2
  go_ret
  exact ⟨rfl, rfl⟩
theorem nil_free (w : World) : Calls Try.prog 100 #[.pointer none] w fun e w' => e = .returned (.int .i64 0) ∧ w = w' := by
  go_enter Try.func100, Try.ntmps100
  go_wp2
  go_ret
  exact ⟨rfl, rfl⟩
theorem nil_at (i : Int) (w : World) : Calls Try.prog 101 #[.pointer none, .int .i64 i] w fun e w' => e = .returned (.tuple #[.slice none 0 0, .bool false]) ∧ w = w' := by
  go_enter Try.func101, Try.ntmps101
  go_wp2
  go_ret2
  exact ⟨rfl, rfl⟩
theorem nil_front (w : World) : Calls Try.prog 96 #[.pointer none] w fun e w' => e = .returned (.tuple #[.slice none 0 0, .bool false]) ∧ w = w' := by
  go_enter Try.func96, Try.ntmps96
  go_wp2_with fail
  refine (nil_at _ _).mono ?_; rintro e w' ⟨rfl, rfl⟩
  go_wp2
  go_ret2
  exact ⟨rfl, rfl⟩
theorem nil_pop (w : World) : Calls Try.prog 83 #[.pointer none] w fun e w' => e = .returned (.tuple #[.slice none 0 0, .bool false]) ∧ w = w' := by
  go_enter Try.func83, Try.ntmps83
  go_wp2_with fail
  refine (nil_front _).mono ?_; rintro e w' ⟨rfl, rfl⟩
  go_wp2
  go_ret2
  exact ⟨rfl, rfl⟩
theorem nil_push (A : Option Addr) (n c : Nat) (w : World) : Calls Try.prog 62 #[.pointer none, .slice A n c] w fun e w' => e = .returned (.int .i64 5) ∧ w = w' := by
  go_enter Try.func62, Try.ntmps62
  go_wp2
  go_ret
  exact ⟨rfl, rfl⟩
end Go.Proofs.Ytnbhgeodbpelgaa
