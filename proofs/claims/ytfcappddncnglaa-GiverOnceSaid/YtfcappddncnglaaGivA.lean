/- Layer 15's packets without data: Same, SameAll of one list; layer 28's num. No conditions. -/
import Derived.Test.YtfcappddncnglaaQueN
import Derived.Test.YtfcappddncnglaaNonC
import Derived.Deep.RegionHeld3
import Derived.Deep.DrawnRows
namespace Go.Proofs.Ytfcappddncnglaa
open Go.RowKit
set_option linter.unusedVariables false
attribute [local go_sem ↓] Go.wp_at_zero Go.wp_at_succ

theorem num28 (n : Int) (w : World) : Calls Try.prog 55 #[.int .i64 n] w fun e w' => e = .returned (.int .i64 n) ∧ w = w' := by
  go_enter Try.func55, Try.ntmps55
  go_wp2
  go_ret
  exact ⟨rfl, rfl⟩
/-- a packet without data: kind, T, C, R. -/
abbrev Tok := Nat × Nat × Nat × Nat
def tokC (t : Tok) : List Value := [.int .i64 (t.1 : Nat), .int .u64 (t.2.1 : Nat), .int .u64 (t.2.2.1 : Nat), .int .u64 (t.2.2.2 : Nat), .slice none 0 0]
/-- a slice of such packets. -/
def Toks (w : World) (A : Option Addr) (ts : List Tok) : Prop := ∀ (k : Nat) (t : Tok), ts[k]? = some t → ∃ b o, A = some ⟨b, o, none⟩ ∧ b < w.heap.size ∧ ∀ (j : Nat) v, (tokC t)[j]? = some v → w.cell? ⟨b, o + k * 5 + j, none⟩ = some v
theorem Toks.nil (w : World) (A : Option Addr) : Toks w A [] := fun k t h => by simp at h
theorem Toks.on {w w' : World} {A : Option Addr} {ts : List Tok} (h : Toks w A ts) (hb : Below w.heap.size w w') : Toks w' A ts := fun k t hk => by
  obtain ⟨b, o, ha, hl, hc⟩ := h k t hk
  exact ⟨b, o, ha, Nat.lt_of_lt_of_le hl hb.size, fun j v hv => (hb.cell (p := ⟨b, o + k * 5 + j, none⟩) hl).trans (hc j v hv)⟩
theorem Toks.kept {w w' : World} {A : Option Addr} {ts : List Tok} (h : Toks w A ts) (hk : ∀ b o s, A = some ⟨b, o, s⟩ → w'.heap[b]? = w.heap[b]?) (hs : w.heap.size ≤ w'.heap.size) : Toks w' A ts := fun k t hkt => by
  obtain ⟨b, o, ha, hl, hc⟩ := h k t hkt
  exact ⟨b, o, ha, Nat.lt_of_lt_of_le hl hs, fun j v hv => (World.cell?_of_block (hk b o none ha)).trans (hc j v hv)⟩
theorem tok_same (t : Tok) (w : World) : Calls Try.prog 76 #[.agg #[.int .i64 (t.1 : Nat), .int .u64 (t.2.1 : Nat), .int .u64 (t.2.2.1 : Nat), .int .u64 (t.2.2.2 : Nat), .slice none 0 0], .agg #[.int .i64 (t.1 : Nat), .int .u64 (t.2.1 : Nat), .int .u64 (t.2.2.1 : Nat), .int .u64 (t.2.2.2 : Nat), .slice none 0 0]] w fun e w' => e = .returned (.bool true) ∧ Below w.heap.size w w' := by
  obtain ⟨k, T, C, R⟩ := t
  have HS := hide (fun W => same_eq (A := none) (C := none) (c := 0) (d := 0) (B := 0) (l := []) (w := W) (Rd.nil _ _ _) (Rd.nil _ _ _) (by simp))
  have HB := hide (fun a b => (((Below.refl w.heap.size w).alloc (Nat.le_refl _) a).alloc (by simp) b))
  go_enter Try.func76, Try.ntmps76
  go_wp2_with fail
  refine (HS.out _).mono ?_; rintro e w' ⟨rfl, hb⟩
  have HB2 := hide (below2 (HB.out _ _) hb (by simp))
  clear hb
  go_wp2
  go_ret
  exact ⟨rfl, HB2.out⟩
set_option maxHeartbeats 1000000 in
theorem toks_same {A C : Option Addr} {c d : Nat} {ts : List Tok} {w : World} (hA : Toks w A ts) (hC : Toks w C ts) (hl : ts.length ≤ 9223372036854775807) :
    Calls Try.prog 56 #[.slice A ts.length c, .slice C ts.length d] w fun e w' => e = .returned (.bool true) ∧ Below w.heap.size w w' := by
  have HA := hide hA
  have HC := hide hC
  clear hA hC
  go_enter Try.func56, Try.ntmps56
  go_wp2
  go_loopw [5] (fun i wr => ∃ k : Nat, k ≤ ts.length ∧ i = .int .i64 k ∧ Hid (Below w.heap.size w wr)) (fun i _ => ts.length - (intOf i).toNat)
  case atStart => exact ⟨0, Nat.zero_le _, rfl, Below.refl _ _⟩
  case round =>
    obtain ⟨k, hk, rfl, HB⟩ := hrel
    by_cases hlt : k < ts.length
    · obtain ⟨t, hkt⟩ : ∃ t, ts[k]? = some t := ⟨_, List.getElem?_eq_getElem hlt⟩
      obtain ⟨b1, o1, rfl, hb1, hc1⟩ := HA.out k t hkt
      obtain ⟨b2, o2, rfl, hb2, hc2⟩ := HC.out k t hkt
      have k1 : ∀ wx (hw : Below w.heap.size w wx) (j : Nat) v, (tokC t)[j]? = some v → wx.cell? ⟨b1, o1 + k * 5 + j, none⟩ = some v := fun wx hw j v hv => (hw.cell (p := ⟨b1, o1 + k * 5 + j, none⟩) hb1).trans (hc1 j v hv)
      have k2 : ∀ wx (hw : Below w.heap.size w wx) (j : Nat) v, (tokC t)[j]? = some v → wx.cell? ⟨b2, o2 + k * 5 + j, none⟩ = some v := fun wx hw j v hv => (hw.cell (p := ⟨b2, o2 + k * 5 + j, none⟩) hb2).trans (hc2 j v hv)
      have HK1 := hide k1
      have HK2 := hide k2
      have HS := hide (fun W => tok_same t W)
      have HBD := hide HB.out.drew
      obtain ⟨n, T, C, R⟩ := t
      have g0 : (0 : Int) ≤ (k : Int) := by omega
      have g1 : (k : Int) < (ts.length : Int) := by omega
      have x0 := k1 wr HB.out 0 _ rfl
      have x1 := k1 wr HB.out 1 _ rfl
      have x2 := k1 wr HB.out 2 _ rfl
      have x3 := k1 wr HB.out 3 _ rfl
      have x4 := k1 wr HB.out 4 _ rfl
      have y0 := k2 wr HB.out 0 _ rfl
      have y1 := k2 wr HB.out 1 _ rfl
      have y2 := k2 wr HB.out 2 _ rfl
      have y3 := k2 wr HB.out 3 _ rfl
      have y4 := k2 wr HB.out 4 _ rfl
      simp only [Nat.add_zero] at x0 y0
      clear k1 k2 hc1 hc2 hb1 hb2 hkt
      go_wp2
      go_region_held3 (fun w' => (w'.cell? ⟨b1, o1 + k * 5, none⟩ = some (.int .i64 n) ∧ w'.cell? ⟨b1, o1 + k * 5 + 1, none⟩ = some (.int .u64 T) ∧ w'.cell? ⟨b1, o1 + k * 5 + 2, none⟩ = some (.int .u64 C) ∧ w'.cell? ⟨b1, o1 + k * 5 + 3, none⟩ = some (.int .u64 R) ∧ w'.cell? ⟨b1, o1 + k * 5 + 4, none⟩ = some (.slice none 0 0)) ∧ (w'.cell? ⟨b2, o2 + k * 5, none⟩ = some (.int .i64 n) ∧ w'.cell? ⟨b2, o2 + k * 5 + 1, none⟩ = some (.int .u64 T) ∧ w'.cell? ⟨b2, o2 + k * 5 + 2, none⟩ = some (.int .u64 C) ∧ w'.cell? ⟨b2, o2 + k * 5 + 3, none⟩ = some (.int .u64 R) ∧ w'.cell? ⟨b2, o2 + k * 5 + 4, none⟩ = some (.slice none 0 0))) (first
          | exact ⟨⟨x0, x1, x2, x3, x4⟩, ⟨y0, y1, y2, y3, y4⟩⟩
          | exact ⟨⟨HK1.out _ HB2 0 _ rfl, HK1.out _ HB2 1 _ rfl, HK1.out _ HB2 2 _ rfl, HK1.out _ HB2 3 _ rfl, HK1.out _ HB2 4 _ rfl⟩, ⟨HK2.out _ HB2 0 _ rfl, HK2.out _ HB2 1 _ rfl, HK2.out _ HB2 2 _ rfl, HK2.out _ HB2 3 _ rfl, HK2.out _ HB2 4 _ rfl⟩⟩)
        ((first
          | (go_at_call 76; (with_reducible refine (HS.out _).mono ?_); rintro e w4 ⟨rfl, hb4⟩; have HB2 := below2 HBD.out hb4 (Nat.le_refl _))))
      go_wp2
      go_roundw
      case rel => exact ⟨k + 1, by omega, by go_num, HB2⟩
      case measure => simp [intOf]; omega
    · go_wp2
      go_ret
      exact ⟨rfl, HB.out⟩
end Go.Proofs.Ytfcappddncnglaa
