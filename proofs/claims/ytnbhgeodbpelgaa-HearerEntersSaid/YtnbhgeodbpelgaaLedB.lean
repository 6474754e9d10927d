/- Ask, Hear and Mark of layer 17 and of its reference, by what they do to a ledger in memory. No conditions. -/
import Derived.Test.YtnbhgeodbpelgaaLedA
namespace Go.Proofs.Ytnbhgeodbpelgaa
open Go.RowKit
set_option linter.unusedVariables false

/-- An act on the program's ledger in block g: b is told, the ledger is s' now, and no other block has turned. -/
def LedTo (w : World) (g : Nat) (s' : Led) (b : Bool) (e : Ending) (w' : World) : Prop := e = .returned (.bool b) ∧ LedAt w' g s' ∧ w.grownBy w' (some g)
def RLedTo (w : World) (g : Nat) (s' : Led) (b : Bool) (e : Ending) (w' : World) : Prop := e = .returned (.bool b) ∧ RLedAt w' g s' ∧ w.grownBy w' (some g)

theorem u64_next (n : Nat) (h : n < 18446744073709551615) : IntKind.u64.wrap ((n : Int) + 1) = ((n + 1 : Nat) : Int) := by rw [IntKind.wrap_u64]; omega
theorem u64_prev (n : Nat) (h : n ≤ 18446744073709551615) (h0 : n ≠ 0) : IntKind.u64.wrap ((n : Int) - 1) = ((n - 1 : Nat) : Int) := by rw [IntKind.wrap_u64]; omega

theorem led_more (w : World) (g : Nat) (s : Led) (h : LedAt w g s) (hok : s.ok) (hs : s.spent = false) :
    Calls Try.prog 95 #[.pointer (some ⟨g, 0, none⟩)] w (LedTo w g s.ask true) := by
  have c1 := h.c1
  have f1 := h.free 1; have f3 := h.free 3
  have c3 := h.c3
  have hlt : s.out < 18446744073709551615 := by obtain ⟨h1, _, h3⟩ := hok; rw [hs] at h3; have := topB_false h3.symm; omega
  have he : s.ask = ⟨s.out + 1, s.mark, topB (s.out + 1)⟩ := by unfold Led.ask; rw [hs]; rfl
  have HW := hide (u64_next s.out hlt)
  have HH := hide h
  rw [he]
  clear h hok hs hlt he
  go_enter Try.func95, Try.ntmps95
  go_wp2
  go_ret
  rw [HW.out]
  exact ⟨rfl, (HH.out.set 1 _).set 3 _, grown_set (grown_set (grown_refl _ _) 1 _) 3 _⟩
theorem led_fewer (w : World) (g : Nat) (s : Led) (h : LedAt w g s) (hok : s.ok) (hs : s.spent = false) :
    Calls Try.prog 97 #[.pointer (some ⟨g, 0, none⟩)] w (LedTo w g s.hear s.hearB) := by
  have c1 := h.c1
  have f1 := h.free 1
  by_cases h0 : s.out = 0
  · have hb : s.hearB = false := by unfold Led.hearB; simp [h0]
    have he : s.hear = s := by unfold Led.hear; rw [hb]; rfl
    have hz : (((s.out : Nat) : Int) == 0) = true := by rw [h0]; rfl
    rw [he, hb]
    have HH := hide h
    clear h hok hs h0 hb he f1
    go_enter Try.func97, Try.ntmps97
    go_wp2
    go_ret
    exact ⟨rfl, HH.out, grown_refl _ _⟩
  · have hb : s.hearB = true := by unfold Led.hearB; simp [h0, hs]
    have he : s.hear = ⟨s.out - 1, s.mark, s.spent⟩ := by unfold Led.hear; rw [hb]; rfl
    have hz : (((s.out : Nat) : Int) == 0) = false := by simp; omega
    have HW := hide (u64_prev s.out hok.1 h0)
    rw [he, hb]
    have HH := hide h
    clear h hok hs h0 hb he
    go_enter Try.func97, Try.ntmps97
    go_wp2
    go_ret
    rw [HW.out]
    exact ⟨rfl, HH.out.set 1 _, grown_set (grown_refl _ _) 1 _⟩
theorem led_set (w : World) (g : Nat) (s : Led) (h : LedAt w g s) (hs : s.spent = false) :
    Calls Try.prog 102 #[.pointer (some ⟨g, 0, none⟩)] w (LedTo w g s.set true) := by
  have c1 := h.c1
  have c2 := h.c2
  have f2 := h.free 2
  have he : s.set = ⟨s.out, s.out, s.spent⟩ := by unfold Led.set; rw [hs]; rfl
  rw [he]
  have HH := hide h
  clear h hs he
  go_enter Try.func102, Try.ntmps102
  go_wp2
  go_ret
  exact ⟨rfl, HH.out.set 2 _, grown_set (grown_refl _ _) 2 _⟩

/-- what is told of an act: spent ones tell false. -/
def Led.askB (s : Led) : Bool := !s.spent
theorem led_ask (w : World) (g : Nat) (s : Led) (h : LedAt w g s) (hok : s.ok) : Calls Try.prog 67 #[.pointer (some ⟨g, 0, none⟩)] w (LedTo w g s.ask s.askB) := by
  have HS := hide (led_spent w g s h)
  cases hs : s.spent with
  | true =>
    have he : s.ask = s := by unfold Led.ask; rw [hs]; rfl
    have hb : s.askB = false := by unfold Led.askB; rw [hs]; rfl
    rw [hs] at HS
    rw [he, hb]
    have HH := hide h
    clear h hok hs he hb
    go_enter Try.func67, Try.ntmps67
    go_wp2_with (first | (go_at_call 79; refine HS.out.mono ?_; rintro e w' ⟨rfl, rfl⟩) | go_in)
    go_ret
    exact ⟨rfl, HH.out, grown_refl _ _⟩
  | false =>
    have hb : s.askB = true := by unfold Led.askB; rw [hs]; rfl
    have HM := hide (led_more w g s h hok hs)
    rw [hs] at HS
    rw [hb]
    clear h hok hs hb
    go_enter Try.func67, Try.ntmps67
    go_wp2_with (first | (go_at_call 79; refine HS.out.mono ?_; rintro e w' ⟨rfl, rfl⟩) | (go_at_call 95; refine HM.out.mono ?_; rintro e w' ⟨rfl, hl, hg⟩) | go_in)
    go_ret
    exact ⟨rfl, hl, hg⟩
theorem led_hear (w : World) (g : Nat) (s : Led) (h : LedAt w g s) (hok : s.ok) : Calls Try.prog 70 #[.pointer (some ⟨g, 0, none⟩)] w (LedTo w g s.hear s.hearB) := by
  have HS := hide (led_spent w g s h)
  cases hs : s.spent with
  | true =>
    have hb : s.hearB = false := by unfold Led.hearB; rw [hs]; rfl
    have he : s.hear = s := by unfold Led.hear; rw [hb]; rfl
    rw [hs] at HS
    rw [he, hb]
    have HH := hide h
    clear h hok hs he hb
    go_enter Try.func70, Try.ntmps70
    go_wp2_with (first | (go_at_call 79; refine HS.out.mono ?_; rintro e w' ⟨rfl, rfl⟩) | go_in)
    go_ret
    exact ⟨rfl, HH.out, grown_refl _ _⟩
  | false =>
    have HM := hide (led_fewer w g s h hok hs)
    rw [hs] at HS
    clear h hok hs
    go_enter Try.func70, Try.ntmps70
    go_wp2_with (first | (go_at_call 79; refine HS.out.mono ?_; rintro e w' ⟨rfl, rfl⟩) | (go_at_call 97; refine HM.out.mono ?_; rintro e w' ⟨rfl, hl, hg⟩) | go_in)
    go_ret
    exact ⟨rfl, hl, hg⟩
theorem led_mark (w : World) (g : Nat) (s : Led) (h : LedAt w g s) : Calls Try.prog 92 #[.pointer (some ⟨g, 0, none⟩)] w fun e w' => e = .returned (.tuple #[]) ∧ LedAt w' g s.set ∧ w.grownBy w' (some g) := by
  have HS := hide (led_spent w g s h)
  cases hs : s.spent with
  | true =>
    have he : s.set = s := by unfold Led.set; rw [hs]; rfl
    rw [hs] at HS
    rw [he]
    have HH := hide h
    clear h hs he
    go_enter Try.func92, Try.ntmps92
    go_wp2_with (first | (go_at_call 79; refine HS.out.mono ?_; rintro e w' ⟨rfl, rfl⟩) | go_in)
    go_end0
    exact ⟨rfl, HH.out, grown_refl _ _⟩
  | false =>
    have HM := hide (led_set w g s h hs)
    rw [hs] at HS
    clear h hs
    go_enter Try.func92, Try.ntmps92
    go_wp2_with (first | (go_at_call 79; refine HS.out.mono ?_; rintro e w' ⟨rfl, rfl⟩) | (go_at_call 102; refine HM.out.mono ?_; rintro e w' ⟨rfl, hl, hg⟩) | go_in)
    go_end0
    exact ⟨rfl, hl, hg⟩

/-! ### the reference's -/
theorem rled_ask (w : World) (g : Nat) (s : Led) (h : RLedAt w g s) (hok : s.ok) : Calls Try.prog 68 #[.pointer (some ⟨g, 0, none⟩)] w (RLedTo w g s.ask s.askB) := by
  have c0 := h.c0
  have c2 := h.c2
  have f0 := h.free 0
  have f2 := h.free 2
  have HH := hide h
  cases hs : s.spent with
  | true =>
    have he : s.ask = s := by unfold Led.ask; rw [hs]; rfl
    have hb : s.askB = false := by unfold Led.askB; rw [hs]; rfl
    rw [hs] at c2
    rw [he, hb]
    clear h hok hs he hb
    go_enter Try.func68, Try.ntmps68
    go_wp2
    go_ret
    exact ⟨rfl, HH.out, grown_refl _ _⟩
  | false =>
    have hlt : s.out < 18446744073709551615 := by obtain ⟨h1, _, h3⟩ := hok; rw [hs] at h3; have := topB_false h3.symm; omega
    have he : s.ask = ⟨s.out + 1, s.mark, topB (s.out + 1)⟩ := by unfold Led.ask; rw [hs]; rfl
    have hb : s.askB = true := by unfold Led.askB; rw [hs]; rfl
    have HW := hide (u64_next s.out hlt)
    rw [hs] at c2
    rw [he, hb]
    have hsp := hide hs
    clear h hok hs hlt he hb
    go_enter Try.func68, Try.ntmps68
    go_wp2
    · have hx : (IntKind.u64.wrap ((s.out : Int) + 1) == 18446744073709551615) = true := by assumption
      rw [HW.out] at hx
      go_ret
      rw [show topB (s.out + 1) = true from hx, HW.out]
      exact ⟨rfl, (HH.out.set 0 _).set 2 _, grown_set (grown_set (grown_refl _ _) 0 _) 2 _⟩
    · have hx : (IntKind.u64.wrap ((s.out : Int) + 1) == 18446744073709551615) = false := by assumption
      rw [HW.out] at hx
      go_ret
      rw [show topB (s.out + 1) = false from hx, ← hsp.out, HW.out]
      exact ⟨rfl, HH.out.set 0 _, grown_set (grown_refl _ _) 0 _⟩
theorem rled_hear (w : World) (g : Nat) (s : Led) (h : RLedAt w g s) (hok : s.ok) : Calls Try.prog 74 #[.pointer (some ⟨g, 0, none⟩)] w (RLedTo w g s.hear s.hearB) := by
  have c0 := h.c0
  have c2 := h.c2
  have f0 := h.free 0
  have HH := hide h
  cases hs : s.spent with
  | true =>
    have hb : s.hearB = false := by unfold Led.hearB; rw [hs]; rfl
    have he : s.hear = s := by unfold Led.hear; rw [hb]; rfl
    rw [hs] at c2
    rw [he, hb]
    clear h hok hs he hb
    go_enter Try.func74, Try.ntmps74
    go_wp2
    go_ret
    exact ⟨rfl, HH.out, grown_refl _ _⟩
  | false =>
    rw [hs] at c2
    by_cases h0 : s.out = 0
    · have hb : s.hearB = false := by unfold Led.hearB; simp [h0]
      have he : s.hear = s := by unfold Led.hear; rw [hb]; rfl
      have hz : (((s.out : Nat) : Int) == 0) = true := by rw [h0]; rfl
      rw [he, hb]
      clear h hok hs h0 hb he f0
      go_enter Try.func74, Try.ntmps74
      go_wp2
      go_ret
      exact ⟨rfl, HH.out, grown_refl _ _⟩
    · have hb : s.hearB = true := by unfold Led.hearB; simp [h0, hs]
      have he : s.hear = ⟨s.out - 1, s.mark, s.spent⟩ := by unfold Led.hear; rw [hb]; rfl
      have hz : (((s.out : Nat) : Int) == 0) = false := by simp; omega
      have HW := hide (u64_prev s.out hok.1 h0)
      rw [he, hb]
      clear h hok hs h0 hb he
      go_enter Try.func74, Try.ntmps74
      go_wp2
      go_ret
      rw [HW.out]
      exact ⟨rfl, HH.out.set 0 _, grown_set (grown_refl _ _) 0 _⟩
theorem rled_set (w : World) (g : Nat) (s : Led) (h : RLedAt w g s) : Calls Try.prog 93 #[.pointer (some ⟨g, 0, none⟩)] w fun e w' => e = .returned (.tuple #[]) ∧ RLedAt w' g s.set ∧ w.grownBy w' (some g) := by
  have c0 := h.c0
  have c1 := h.c1
  have c2 := h.c2
  have f1 := h.free 1
  have HH := hide h
  cases hs : s.spent with
  | true =>
    have he : s.set = s := by unfold Led.set; rw [hs]; rfl
    rw [hs] at c2
    rw [he]
    clear h hs he
    go_enter Try.func93, Try.ntmps93
    go_wp2
    go_end0
    exact ⟨rfl, HH.out, grown_refl _ _⟩
  | false =>
    have he : s.set = ⟨s.out, s.out, s.spent⟩ := by unfold Led.set; rw [hs]; rfl
    rw [hs] at c2
    rw [he]
    clear h hs he
    go_enter Try.func93, Try.ntmps93
    go_wp2
    go_end0
    exact ⟨rfl, HH.out.set 1 _, grown_set (grown_refl _ _) 1 _⟩
end Go.Proofs.Ytnbhgeodbpelgaa
