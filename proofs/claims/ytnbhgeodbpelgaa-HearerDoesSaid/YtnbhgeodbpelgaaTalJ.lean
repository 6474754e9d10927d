/- Layer 18's reference tally: what it is at, at, Count. No conditions. -/
import Derived.Test.YtnbhgeodbpelgaaTalG
import Derived.Deep.Cut
namespace Go.Proofs.Ytnbhgeodbpelgaa
open Go.RowKit
set_option linter.unusedVariables false
attribute [local go_sem ↓] Go.wp_at_zero Go.wp_at_succ

/-- of two slices of bytes: they are the same list, or not; nothing old has turned. -/
theorem same_anyJ (A C : Option Addr) (c d B : Nat) (l m : List Nat) (w : World) (hA : Rd B w A (u8s l)) (hC : Rd B w C (u8s m)) (hl : l.length ≤ 9223372036854775807) :
    Calls Try.prog 32 #[.slice A l.length c, .slice C m.length d] w fun e w' => e = .returned (.bool (l == m)) ∧ Below w.heap.size w w' :=
  (same_any A C c d B l m w hA hC hl).mono fun e w' ⟨he, n, hn⟩ => ⟨he, by rw [hn]; exact below_drewN (Below.refl _ _) n⟩
structure RTaAt (w : World) (B gt : Nat) (V : Option Addr) (cV : Nat) (s : List Trow) (F : Nat → Prop) : Prop where
  foot : Foot F B w
  fg : F gt
  blk : Blk w gt 85 [.slice V s.length cV]
  rows : Rws w B 138 (fun k => k = gt) V cV s F
  ok : OkT s
def RTa (w : World) (B gt : Nat) (s : List Trow) (F : Nat → Prop) : Prop := ∃ V cV, RTaAt w B gt V cV s F
section
variable {w w' : World} {B gt cV : Nat} {V : Option Addr} {s : List Trow} {F : Nat → Prop}
theorem RTaAt.kept (h : RTaAt w B gt V cV s F) (hk : ∀ k, F k → w'.heap[k]? = w.heap[k]?) (hs : w.heap.size ≤ w'.heap.size) : RTaAt w' B gt V cV s F :=
  ⟨h.foot.on hs, h.fg, h.blk.kept (hk gt h.fg), h.rows.kept (fun k hf _ => hk k hf) hs, h.ok⟩
theorem RTa.kept (h : RTa w B gt s F) (hk : ∀ k, F k → w'.heap[k]? = w.heap[k]?) (hs : w.heap.size ≤ w'.heap.size) : RTa w' B gt s F := by
  obtain ⟨V, cV, h⟩ := h
  exact ⟨V, cV, h.kept hk hs⟩
theorem RTa.foot (h : RTa w B gt s F) : Foot F B w := by obtain ⟨_, _, h⟩ := h; exact h.foot
theorem RTaAt.on (h : RTaAt w B gt V cV s F) (hb : Below w.heap.size w w') : RTaAt w' B gt V cV s F := h.kept (below_kept hb h.foot) hb.size
theorem RTa.on (h : RTa w B gt s F) (hb : Below w.heap.size w w') : RTa w' B gt s F := h.kept (below_kept hb h.foot) hb.size
theorem RTa.ok (h : RTa w B gt s F) : OkT s := by obtain ⟨_, _, h⟩ := h; exact h.ok
end
theorem rta_new (w : World) {B : Nat} (hB : B ≤ w.heap.size) : RTa (w.alloc (.cells #[.slice none 0 0] 85)) B w.heap.size [] (fun k => k = w.heap.size) := by
  have hb := Blk.new w 85 [.slice none 0 0]
  refine ⟨none, 0, ⟨?_, rfl, hb, Rws.nil _ _ _ _ _, (fun r hr => by cases hr)⟩⟩
  rintro k rfl
  exact ⟨hB, hb.lt⟩
def atV (s : List Trow) (lb : Int) (m : List Nat) : Int := match idxT s lb m with | some i => (i : Int) | none => -1
section
variable {w w' : World} {B gt cV : Nat} {V : Option Addr} {s : List Trow} {F : Nat → Prop}
theorem idx_first {s : List Trow} {lb : Int} {m : List Nat} {k : Nat} {r : Trow} (hr : s[k]? = some r) (h1 : r.1 = lb) (h2 : r.2.1 = m) (hb : ∀ (j : Nat) x, j < k → s[j]? = some x → ¬ (x.1 = lb ∧ x.2.1 = m)) : idxT s lb m = some k := by
  unfold idxT
  obtain ⟨hk, he⟩ := List.getElem?_eq_some_iff.1 hr
  refine List.findIdx?_eq_some_iff_getElem.2 ⟨hk, by rw [he]; simp [h1, h2], fun j hj => ?_⟩
  have := hb j _ hj (List.getElem?_eq_getElem (by omega))
  simp
  intro h3 h4
  exact this ⟨h3, h4⟩
theorem idx_no {s : List Trow} {lb : Int} {m : List Nat} (hb : ∀ (j : Nat) x, j < s.length → s[j]? = some x → ¬ (x.1 = lb ∧ x.2.1 = m)) : idxT s lb m = none := by
  unfold idxT
  refine List.findIdx?_eq_none_iff.2 (fun x hx => ?_)
  obtain ⟨j, hj⟩ := List.getElem?_of_mem hx
  have := hb j x (List.getElem?_eq_some_iff.1 hj).1 hj
  simp
  intro h3 h4
  exact this ⟨h3, h4⟩
set_option maxRecDepth 100000 in
set_option maxHeartbeats 2000000 in
theorem rta_at (h : RTa w B gt s F) (hT : tot s ≤ 1000000) (lb : Int) (A : Option Addr) (c : Nat) (m : List Nat) (hA : Rd w.heap.size w A (u8s m)) :
    Calls Try.prog 89 #[.pointer (some ⟨gt, 0, none⟩), .int .i64 lb, .slice A m.length c] w fun e w' => e = .returned (.int .i64 (atV s lb m)) ∧ Below w.heap.size w w' := by
  obtain ⟨V, cV, h⟩ := h
  have hlen : s.length ≤ 1000000 := Nat.le_trans h.ok.len hT
  have HH := hide h
  have HA := hide hA
  clear h hA
  go_enter Try.func89, Try.ntmps89
  go_wp2
  go_loopw [7] (fun i wr => ∃ k : Nat, k ≤ s.length ∧ i = .int .i64 k ∧ Hid (∀ (j : Nat) x, j < k → s[j]? = some x → ¬ (x.1 = lb ∧ x.2.1 = m)) ∧ Hid (Below w.heap.size w wr)) (fun i _ => s.length - (intOf i).toNat)
  case atStart => exact ⟨0, Nat.zero_le _, rfl, fun j x h => absurd h (by omega), Below.refl _ _⟩
  case round =>
    obtain ⟨k, hk, rfl, HN, HB⟩ := hrel
    have c0 := ((HH.out.on HB.out).blk).cell (i := 0) rfl
    by_cases hlt : k < s.length
    · obtain ⟨⟨rl, rm, rc⟩, hr⟩ : ∃ r, s[k]? = some r := ⟨_, List.getElem?_eq_getElem hlt⟩
      have hrm : rm.length ≤ 9223372036854775807 := by have := (HH.out.ok _ (List.mem_of_getElem? hr)).2.2.1; dsimp only at this; omega
      obtain ⟨b, D, cD, hVe, hbl, _, q0, q1, _, _, hrd, _⟩ := (HH.out.on HB.out).rows.get hr
      dsimp only at q0 q1 hrd
      subst hVe
      have HR := hide hr
      have HS := hide (same_anyJ D A cD c wr.heap.size rm m wr hrd (HA.out.on HB.out) hrm)
      have g0 : (0 : Int) ≤ (k : Int) := by omega
      have g1 : (k : Int) < (s.length : Int) := by omega
      clear hr hrd hbl hrm
      by_cases hl : rl = lb
      · subst hl
        by_cases hm : rm = m
        · have hb1 : (rm == m) = true := by rw [hm]; simp
          rw [hb1] at HS
          have HI : Hid (atV s rl m = (k : Int)) := by
            show _ = _
            unfold atV
            rw [idx_first HR.out rfl hm HN.out]
          clear hm hb1
          go_wp2_with fail
          refine HS.out.mono ?_; rintro e w2 ⟨rfl, hb2⟩
          have HB2 := hide (below2 HB.out hb2 (Nat.le_refl _))
          clear hb2
          go_wp2
          go_ret
          rw [HI.out]
          exact ⟨rfl, HB2.out⟩
        · have hb1 : (rm == m) = false := by rw [beq_eq_false_iff_ne]; exact hm
          rw [hb1] at HS
          have HN2 : Hid (∀ (j : Nat) x, j < k + 1 → s[j]? = some x → ¬ (x.1 = rl ∧ x.2.1 = m)) := fun j x hj hx => by
            by_cases e : j = k
            · subst e
              rw [HR.out] at hx
              injection hx with hx
              subst hx
              exact fun h => hm h.2
            · exact HN.out j x (by omega) hx
          clear hm hb1
          go_wp2_with fail
          refine HS.out.mono ?_; rintro e w2 ⟨rfl, hb2⟩
          have HB2 := hide (below2 HB.out hb2 (Nat.le_refl _))
          clear hb2
          go_wp2
          go_roundw
          case rel => exact ⟨k + 1, by omega, by go_num, HN2, HB2⟩
          case measure => simp [intOf]; omega
      · have hl3 : (rl == lb) = false := by simp; exact hl
        have HN2 : Hid (∀ (j : Nat) x, j < k + 1 → s[j]? = some x → ¬ (x.1 = lb ∧ x.2.1 = m)) := fun j x hj hx => by
          by_cases e : j = k
          · subst e
            rw [HR.out] at hx
            injection hx with hx
            subst hx
            exact fun h => hl h.1
          · exact HN.out j x (by omega) hx
        clear hl
        go_wp2
        go_roundw
        case rel => exact ⟨k + 1, by omega, by go_num, HN2, HB⟩
        case measure => simp [intOf]; omega
    · obtain rfl : k = s.length := by omega
      have HI : Hid (atV s lb m = -1) := by
        show _ = _
        unfold atV
        rw [idx_no HN.out]
      go_wp2
      go_ret
      rw [HI.out]
      exact ⟨rfl, HB.out⟩
set_option maxRecDepth 100000 in
theorem rta_count (h : RTa w B gt s F) (hT : tot s ≤ 1000000) (lb : Int) (A : Option Addr) (c : Nat) (m : List Nat) (hA : Rd w.heap.size w A (u8s m)) :
    Calls Try.prog 53 #[.pointer (some ⟨gt, 0, none⟩), .int .i64 lb, .slice A m.length c] w fun e w' => e = .returned (.int .u64 (cntT s lb m : Nat)) ∧ Below w.heap.size w w' := by
  have HA := hide (rta_at h hT lb A c m hA)
  obtain ⟨V, cV, h⟩ := h
  have hlen : s.length ≤ 1000000 := Nat.le_trans h.ok.len hT
  cases hx : idxT s lb m with
  | none =>
    have HC := hide (cnt_none hx)
    have e1 : atV s lb m = -1 := by unfold atV; rw [hx]
    rw [e1] at HA
    clear h hx hA e1
    go_enter Try.func53, Try.ntmps53
    go_wp2_with fail
    refine HA.out.mono ?_; rintro e w2 ⟨rfl, hb2⟩
    have HB2 := hide hb2
    clear hb2
    go_wp2
    go_ret
    rw [HC.out]
    exact ⟨rfl, HB2.out⟩
  | some i =>
    obtain ⟨cn, hcn⟩ := idx_some hx
    have HC := hide (cnt_some hx hcn)
    have hil := idx_lt hx
    have e1 : atV s lb m = (i : Int) := by unfold atV; rw [hx]
    rw [e1] at HA
    have HH := hide h
    have HCN := hide hcn
    have g0 : (0 : Int) ≤ (i : Int) := by omega
    have g1 : (i : Int) < (s.length : Int) := by omega
    have g2 : ¬ (i : Int) < 0 := by omega
    clear h hx hA e1 hcn hil
    go_enter Try.func53, Try.ntmps53
    go_wp2_with fail
    refine HA.out.mono ?_; rintro e w2 ⟨rfl, hb2⟩
    have c0 := ((HH.out.on hb2).blk).cell (i := 0) rfl
    obtain ⟨b, D, cD, hVe, _, _, _, _, q2, _⟩ := (HH.out.on hb2).rows.get HCN.out
    dsimp only at q2
    subst hVe
    have HB2 := hide hb2
    clear hb2
    go_wp2
    go_ret
    rw [HC.out]
    exact ⟨rfl, HB2.out⟩
end
end Go.Proofs.Ytnbhgeodbpelgaa
