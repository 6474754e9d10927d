/- The functions of layer 17 (ledger and its reference), each by what it does to a ledger in memory. No conditions. -/
import Derived.Test.YtnbhgeodbpelgaaBlk
namespace Go.Proofs.Ytnbhgeodbpelgaa
open Go.RowKit
set_option linter.unusedVariables false

/-- A ledger: how many are open, how many are marked, whether it is spent. -/
structure Led where
  out : Nat
  mark : Nat
  spent : Bool
/-- is it the number that a count never goes beyond? -/
def topB (n : Nat) : Bool := (n : Int) == 18446744073709551615
/-- its numbers fit, and it is spent just where the count is the last one. -/
def Led.ok (s : Led) : Prop := s.out ≤ 18446744073709551615 ∧ s.mark ≤ 18446744073709551615 ∧ s.spent = topB s.out
def Led.new (n : Nat) : Led := ⟨n, n, topB n⟩
def Led.ask (s : Led) : Led := if s.spent then s else ⟨s.out + 1, s.mark, topB (s.out + 1)⟩
def Led.hearB (s : Led) : Bool := !s.spent && !(s.out == 0)
def Led.hear (s : Led) : Led := if s.hearB then ⟨s.out - 1, s.mark, s.spent⟩ else s
def Led.set (s : Led) : Led := if s.spent then s else ⟨s.out, s.out, s.spent⟩
def Led.enough (s : Led) (k : Int) : Bool := !s.spent && decide ((s.mark : Int) < k)
theorem topB_iff (n : Nat) : topB n = true ↔ n = 18446744073709551615 := by unfold topB; rw [beq_iff_eq]; omega
theorem topB_false {n : Nat} (h : topB n = false) : n ≠ 18446744073709551615 := fun e => by rw [(topB_iff n).2 e] at h; cases h
theorem topB_lt {n : Nat} (h : n < 18446744073709551615) : topB n = false := by
  cases h' : topB n with
  | false => rfl
  | true => have := (topB_iff n).1 h'; omega
theorem Led.ok_new (n : Nat) (h : n ≤ 18446744073709551615) : (Led.new n).ok := ⟨h, h, rfl⟩
theorem Led.ok_ask {s : Led} (h : s.ok) : s.ask.ok := by
  obtain ⟨h1, h2, h3⟩ := h
  unfold Led.ask
  cases hs : s.spent with
  | true => exact ⟨h1, h2, h3⟩
  | false => rw [hs] at h3; have := topB_false h3.symm; exact ⟨by simp; omega, h2, rfl⟩
theorem Led.ok_hear {s : Led} (h : s.ok) : s.hear.ok := by
  obtain ⟨h1, h2, h3⟩ := h
  unfold Led.hear Led.hearB
  cases hs : s.spent with
  | true => simpa using ⟨h1, h2, h3⟩
  | false =>
    rw [hs] at h3
    have := topB_false h3.symm
    by_cases h0 : s.out = 0
    · simp [h0]; exact ⟨h1, h2, by rw [hs]; exact h3⟩
    · simp [h0]
      exact ⟨by show s.out - 1 ≤ _; omega, h2, (topB_lt (show s.out - 1 < 18446744073709551615 by omega)).symm⟩
theorem Led.ok_set {s : Led} (h : s.ok) : s.set.ok := by
  obtain ⟨h1, h2, h3⟩ := h
  unfold Led.set
  cases hs : s.spent with
  | true => exact ⟨h1, h2, h3⟩
  | false => rw [hs] at h3; exact ⟨h1, h1, h3⟩

/-- the program's ledger, in block g. -/
def LedAt (w : World) (g : Nat) (s : Led) : Prop := Blk w g 143 [.bool true, .int .u64 (s.out : Int), .int .u64 (s.mark : Int), .bool s.spent]
/-- the reference's. -/
def RLedAt (w : World) (g : Nat) (s : Led) : Prop := Blk w g 123 [.int .u64 (s.out : Int), .int .u64 (s.mark : Int), .bool s.spent]

theorem led_new (n : Nat) (w : World) : Calls Try.prog 57 #[.int .u64 (n : Int)] w fun e w' => e = .returned (.pointer (some ⟨w.heap.size, 0, none⟩)) ∧ LedAt w' w.heap.size (Led.new n) ∧ Below w.heap.size w w' := by
  go_enter Try.func57, Try.ntmps57
  go_wp2
  go_ret
  exact ⟨rfl, Blk.new w _ [.bool true, .int .u64 (n : Int), .int .u64 (n : Int), .bool (topB n)], (Below.refl _ _).alloc (Nat.le_refl _) _⟩
theorem rled_new (n : Nat) (w : World) : Calls Try.prog 59 #[.int .u64 (n : Int)] w fun e w' => e = .returned (.pointer (some ⟨w.heap.size, 0, none⟩)) ∧ RLedAt w' w.heap.size (Led.new n) ∧ Below w.heap.size w w' := by
  go_enter Try.func59, Try.ntmps59
  go_wp2
  go_ret
  exact ⟨rfl, Blk.new w _ [.int .u64 (n : Int), .int .u64 (n : Int), .bool (topB n)], (Below.refl _ _).alloc (Nat.le_refl _) _⟩

section
variable {w : World} {g : Nat} {s : Led}
theorem LedAt.c0 (h : LedAt w g s) : w.cell? ⟨g, 0, none⟩ = some (.bool true) := h.cell rfl
theorem LedAt.c1 (h : LedAt w g s) : w.cell? ⟨g, 1, none⟩ = some (.int .u64 (s.out : Int)) := h.cell rfl
theorem LedAt.c2 (h : LedAt w g s) : w.cell? ⟨g, 2, none⟩ = some (.int .u64 (s.mark : Int)) := h.cell rfl
theorem LedAt.c3 (h : LedAt w g s) : w.cell? ⟨g, 3, none⟩ = some (.bool s.spent) := h.cell rfl
theorem RLedAt.c0 (h : RLedAt w g s) : w.cell? ⟨g, 0, none⟩ = some (.int .u64 (s.out : Int)) := h.cell rfl
theorem RLedAt.c1 (h : RLedAt w g s) : w.cell? ⟨g, 1, none⟩ = some (.int .u64 (s.mark : Int)) := h.cell rfl
theorem RLedAt.c2 (h : RLedAt w g s) : w.cell? ⟨g, 2, none⟩ = some (.bool s.spent) := h.cell rfl
end

theorem led_spent (w : World) (g : Nat) (s : Led) (h : LedAt w g s) : Calls Try.prog 79 #[.pointer (some ⟨g, 0, none⟩)] w fun e w' => e = .returned (.bool s.spent) ∧ w = w' := by
  have c0 := h.c0; have c3 := h.c3
  clear h
  go_enter Try.func79, Try.ntmps79
  go_wp2
  go_ret
  exact ⟨rfl, rfl⟩
theorem led_out (w : World) (g : Nat) (s : Led) (h : LedAt w g s) : Calls Try.prog 77 #[.pointer (some ⟨g, 0, none⟩)] w fun e w' => e = .returned (.int .u64 (s.out : Int)) ∧ w = w' := by
  have c1 := h.c1
  clear h
  go_enter Try.func77, Try.ntmps77
  go_wp2
  go_ret
  exact ⟨rfl, rfl⟩
theorem led_marked (w : World) (g : Nat) (s : Led) (h : LedAt w g s) : Calls Try.prog 78 #[.pointer (some ⟨g, 0, none⟩)] w fun e w' => e = .returned (.int .u64 (s.mark : Int)) ∧ w = w' := by
  have c2 := h.c2
  clear h
  go_enter Try.func78, Try.ntmps78
  go_wp2
  go_ret
  exact ⟨rfl, rfl⟩
theorem led_enough (w : World) (g : Nat) (s : Led) (n : Int) (h : LedAt w g s) : Calls Try.prog 98 #[.pointer (some ⟨g, 0, none⟩), .int .u64 n] w fun e w' => e = .returned (.bool (s.enough n)) ∧ w = w' := by
  have c2 := h.c2
  have hs := led_spent w g s h
  clear h
  cases hsp : s.spent with
  | true =>
    have e0 : s.enough n = false := by unfold Led.enough; rw [hsp]; rfl
    rw [hsp] at hs
    have HS := hide hs
    rw [e0]
    clear hs hsp e0
    go_enter Try.func98, Try.ntmps98
    go_wp2_with fail
    refine HS.out.mono ?_; rintro e w' ⟨rfl, rfl⟩
    go_wp2
    go_ret
    exact ⟨rfl, rfl⟩
  | false =>
    have e0 : s.enough n = decide ((s.mark : Int) < n) := by unfold Led.enough; rw [hsp]; simp
    rw [hsp] at hs
    have HS := hide hs
    rw [e0]
    clear hs hsp e0
    go_enter Try.func98, Try.ntmps98
    go_wp2_with fail
    refine HS.out.mono ?_; rintro e w' ⟨rfl, rfl⟩
    go_wp2
    go_ret
    exact ⟨rfl, rfl⟩
theorem rled_enough (w : World) (g : Nat) (s : Led) (n : Int) (h : RLedAt w g s) : Calls Try.prog 75 #[.pointer (some ⟨g, 0, none⟩), .int .u64 n] w fun e w' => e = .returned (.bool (s.enough n)) ∧ w = w' := by
  have c1 := h.c1; have c2 := h.c2
  clear h
  cases hsp : s.spent with
  | true =>
    have e0 : s.enough n = false := by unfold Led.enough; rw [hsp]; rfl
    rw [hsp] at c2
    rw [e0]
    clear hsp e0
    go_enter Try.func75, Try.ntmps75
    go_wp2
    go_ret
    exact ⟨rfl, rfl⟩
  | false =>
    have e0 : s.enough n = decide ((s.mark : Int) < n) := by unfold Led.enough; rw [hsp]; simp
    rw [hsp] at c2
    rw [e0]
    clear hsp e0
    go_enter Try.func75, Try.ntmps75
    go_wp2
    go_ret
    exact ⟨rfl, rfl⟩
end Go.Proofs.Ytnbhgeodbpelgaa
