/- Layer 13's packets: Same, SameAll of one list. No conditions. -/
import Derived.Test.YtnbhgeodbpelgaaQueM
import Derived.Test.YtnbhgeodbpelgaaObj
import Derived.Test.YtnbhgeodbpelgaaSame
import Derived.Deep.RegionHeld3
import Derived.Deep.DrawnRows
namespace Go.Proofs.Ytnbhgeodbpelgaa
open Go.RowKit
set_option linter.unusedVariables false
attribute [local go_sem ↓] Go.wp_at_zero Go.wp_at_succ

/-- a packet: kind, label, data. -/
abbrev Prb := Int × Int × List Nat
/-- a slice of packets; the blocks that they lie in meet P. -/
def Prbs (P : Nat → Prop) (w : World) (A : Option Addr) (ps : List Prb) : Prop := ∀ (k : Nat) (p : Prb), ps[k]? = some p → ∃ b o D c, A = some ⟨b, o, none⟩ ∧ P b ∧ b < w.heap.size ∧
  (∀ (j : Nat) v, ([.int .i64 p.1, .int .i64 p.2.1, .slice D p.2.2.length c] : List Value)[j]? = some v → w.cell? ⟨b, o + k * 3 + j, none⟩ = some v) ∧ Rd w.heap.size w D (u8s p.2.2) ∧ p.2.2.length ≤ 9223372036854775807 ∧ (0 < p.2.2.length → ∀ b' o' s', D = some ⟨b', o', s'⟩ → P b')
theorem Prbs.nil (P : Nat → Prop) (w : World) (A : Option Addr) : Prbs P w A [] := fun k p h => by simp at h
theorem Prbs.kept {P : Nat → Prop} {w w' : World} {A : Option Addr} {ps : List Prb} (h : Prbs P w A ps) (hk : ∀ b, P b → b < w.heap.size → w'.heap[b]? = w.heap[b]?) (hs : w.heap.size ≤ w'.heap.size) : Prbs P w' A ps := fun k p hkp => by
  obtain ⟨b, o, D, c, ha, hp, hl, hc, hr, hn, hd⟩ := h k p hkp
  refine ⟨b, o, D, c, ha, hp, Nat.lt_of_lt_of_le hl hs, fun j v hv => (World.cell?_of_block (w := w) (hk b hp hl)).trans (hc j v hv), fun hlen => ?_, hn, hd⟩
  obtain ⟨b', o', e, hb', hc'⟩ := hr hlen
  rw [u8s_length] at hlen
  exact ⟨b', o', e, Nat.lt_of_lt_of_le hb' hs, fun j u hu => (World.cell?_of_block (w := w) (hk b' (hd hlen b' o' none e) hb')).trans (hc' j u hu)⟩
theorem Prbs.imp {P P' : Nat → Prop} {w : World} {A : Option Addr} {ps : List Prb} (h : Prbs P w A ps) (hi : ∀ b, P b → b < w.heap.size → P' b) : Prbs P' w A ps := fun k p hkp => by
  obtain ⟨b, o, D, c, ha, hp, hl, hc, hr, hn, hd⟩ := h k p hkp
  refine ⟨b, o, D, c, ha, hi b hp hl, hl, hc, hr, hn, fun hz b2 o2 s2 e2 => ?_⟩
  obtain ⟨b', o', e, hb', _⟩ := hr (by rw [u8s_length]; exact hz)
  have e3 := e.symm.trans e2
  injection e3 with e3
  injection e3 with e4
  subst e4
  exact hi b' (hd hz b' o' none e) hb'
theorem Prbs.any {P : Nat → Prop} {w : World} {A : Option Addr} {ps : List Prb} (h : Prbs P w A ps) : Prbs (fun _ => True) w A ps := h.imp (fun _ _ _ => trivial)
theorem Prbs.on {P : Nat → Prop} {w w' : World} {A : Option Addr} {ps : List Prb} (h : Prbs P w A ps) (hb : Below w.heap.size w w') : Prbs P w' A ps := h.kept (fun b _ hl => hb.block b hl) hb.size
theorem prb_same (p : Prb) (A C : Option Addr) (c d : Nat) (w : World) (hA : Rd w.heap.size w A (u8s p.2.2)) (hC : Rd w.heap.size w C (u8s p.2.2)) (hl : p.2.2.length ≤ 9223372036854775807) :
    Calls Try.prog 66 #[.agg #[.int .i64 p.1, .int .i64 p.2.1, .slice A p.2.2.length c], .agg #[.int .i64 p.1, .int .i64 p.2.1, .slice C p.2.2.length d]] w fun e w' => e = .returned (.bool true) ∧ Below w.heap.size w w' := by
  obtain ⟨k, lb, m⟩ := p
  dsimp only at hA hC hl ⊢
  have HB := hide (fun a b => (((Below.refl w.heap.size w).alloc (Nat.le_refl _) a).alloc (by simp) b))
  have HS := hide (fun a b => same_eq (c := c) (d := d) (w := (w.alloc a).alloc b) (hA.on (HB.out a b)) (hC.on (HB.out a b)) hl)
  clear hA hC hl
  go_enter Try.func66, Try.ntmps66
  go_wp2_with fail
  refine (HS.out _ _).mono ?_; rintro e w' ⟨rfl, hb⟩
  have HB2 := hide (below2 (HB.out _ _) hb (by simp))
  clear hb
  go_wp2
  go_ret
  exact ⟨rfl, HB2.out⟩
set_option maxHeartbeats 2000000 in
theorem prbs_same {P P' : Nat → Prop} {A C : Option Addr} {c d : Nat} {ps : List Prb} {w : World} (hA : Prbs P w A ps) (hC : Prbs P' w C ps) (hl : ps.length ≤ 9223372036854775807) :
    Calls Try.prog 19 #[.slice A ps.length c, .slice C ps.length d] w fun e w' => e = .returned (.bool true) ∧ Below w.heap.size w w' := by
  have HA := hide hA
  have HC := hide hC
  clear hA hC
  go_enter Try.func19, Try.ntmps19
  go_wp2
  go_loopw [5] (fun i wr => ∃ k : Nat, k ≤ ps.length ∧ i = .int .i64 k ∧ Hid (Below w.heap.size w wr)) (fun i _ => ps.length - (intOf i).toNat)
  case atStart => exact ⟨0, Nat.zero_le _, rfl, Below.refl _ _⟩
  case round =>
    obtain ⟨k, hk, rfl, HB⟩ := hrel
    by_cases hlt : k < ps.length
    · obtain ⟨p, hkp⟩ : ∃ p, ps[k]? = some p := ⟨_, List.getElem?_eq_getElem hlt⟩
      obtain ⟨b1, o1, D1, c1, rfl, _, hb1, hc1, hr1, hl1, _⟩ := (HA.out.on HB.out.drew) k p hkp
      obtain ⟨b2, o2, D2, c2, rfl, _, hb2, hc2, hr2, hl2, _⟩ := (HC.out.on HB.out.drew) k p hkp
      have HS := hide (prb_same p D1 D2 c1 c2 wr.drew hr1 hr2 hl1)
      have HBD := hide HB.out.drew
      have HK := hide (fun wx (hw : Below wr.drew.heap.size wr.drew wx) => (show (wx.cell? ⟨b1, o1 + k * 3, none⟩ = some (.int .i64 p.1) ∧ wx.cell? ⟨b1, o1 + k * 3 + 1, none⟩ = some (.int .i64 p.2.1) ∧ wx.cell? ⟨b1, o1 + k * 3 + 2, none⟩ = some (.slice D1 p.2.2.length c1)) ∧ (wx.cell? ⟨b2, o2 + k * 3, none⟩ = some (.int .i64 p.1) ∧ wx.cell? ⟨b2, o2 + k * 3 + 1, none⟩ = some (.int .i64 p.2.1) ∧ wx.cell? ⟨b2, o2 + k * 3 + 2, none⟩ = some (.slice D2 p.2.2.length c2)) from
        ⟨⟨(hw.cell (p := ⟨b1, o1 + k * 3, none⟩) hb1).trans (hc1 0 _ rfl), (hw.cell (p := ⟨b1, o1 + k * 3 + 1, none⟩) hb1).trans (hc1 1 _ rfl), (hw.cell (p := ⟨b1, o1 + k * 3 + 2, none⟩) hb1).trans (hc1 2 _ rfl)⟩, ⟨(hw.cell (p := ⟨b2, o2 + k * 3, none⟩) hb2).trans (hc2 0 _ rfl), (hw.cell (p := ⟨b2, o2 + k * 3 + 1, none⟩) hb2).trans (hc2 1 _ rfl), (hw.cell (p := ⟨b2, o2 + k * 3 + 2, none⟩) hb2).trans (hc2 2 _ rfl)⟩⟩))
      have g0 : (0 : Int) ≤ (k : Int) := by omega
      have g1 : (k : Int) < (ps.length : Int) := by omega
      clear hc1 hc2 hb1 hb2 hr1 hr2 hl1 hl2 hkp
      go_wp2
      go_region_held3 (fun wx => (wx.cell? ⟨b1, o1 + k * 3, none⟩ = some (.int .i64 p.1) ∧ wx.cell? ⟨b1, o1 + k * 3 + 1, none⟩ = some (.int .i64 p.2.1) ∧ wx.cell? ⟨b1, o1 + k * 3 + 2, none⟩ = some (.slice D1 p.2.2.length c1)) ∧ (wx.cell? ⟨b2, o2 + k * 3, none⟩ = some (.int .i64 p.1) ∧ wx.cell? ⟨b2, o2 + k * 3 + 1, none⟩ = some (.int .i64 p.2.1) ∧ wx.cell? ⟨b2, o2 + k * 3 + 2, none⟩ = some (.slice D2 p.2.2.length c2))) (first
          | exact HK.out _ hb4
          | exact HK.out _ (Below.refl _ _))
        ((first
          | (go_at_call 66; (with_reducible refine HS.out.mono ?_); rintro e w4 ⟨rfl, hb4⟩)))
      have HB2 := hide (below2 HBD.out hb4 (Nat.le_refl _))
      go_wp2
      go_roundw
      case rel => exact ⟨k + 1, by omega, by go_num, HB2.out⟩
      case measure => simp [intOf]; omega
    · go_wp2
      go_ret
      exact ⟨rfl, HB.out⟩
end Go.Proofs.Ytnbhgeodbpelgaa
