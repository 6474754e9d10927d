/- Layer 10: Unpack of any words, and its reference's, by what they compute. No conditions. -/
import Derived.Test.YtnoefbmdpbljhaaHamJ
namespace Go.Proofs.Ytnoefbmdpbljhaa
open Go.RowKit
set_option linter.unusedVariables false

theorem unpack_any (A : Option Addr) (c : Nat) (W : List Nat) (hb : Byt W) (hll : W.length ≤ 9223372036854775807) (w : World) (hA : Rd w.heap.size w A (u8s W)) :
    Calls Try.prog 18 #[.slice A W.length c] w (UnpR W w) := by
  by_cases hl : 8192 < W.length
  · clear hb hA
    have hl2 : (8192 : Int) < (W.length : Int) := by omega
    go_enter Try.func18, Try.ntmps18
    go_wp2
    go_ret3
    exact ⟨⟨none, [], 0, 0, 2, rfl, World.ownsRow_nil _ _ _ _, .inl ⟨hl, rfl, rfl, rfl⟩⟩, Below.refl _ _⟩
  · by_cases he : W.length % 2 = 0
    · exact unpack_in A c W (by omega) he hb w hA
    · clear hb hA
      have hl2 : ¬ (8192 : Int) < (W.length : Int) := by omega
      have e1 : ((W.length : Int) % 2 != 0) = true := by simp; omega
      go_enter Try.func18, Try.ntmps18
      go_wp2
      go_ret3
      exact ⟨⟨none, [], 0, 0, 1, rfl, World.ownsRow_nil _ _ _ _, .inr (.inl ⟨by omega, by omega, rfl, rfl, rfl⟩)⟩, Below.refl _ _⟩

/-! ### the reference's -/
theorem rhalf_of (x : Nat) (hx : x < 256) (w : World) : Calls Try.prog 14 #[.int .i64 (x : Int)] w fun e w' => e = .returned (.tuple #[.int .i64 ((Hm.half x).1 : Nat), .int .i64 ((Hm.half x).2.1 : Nat), .int .i64 ((Hm.half x).2.2 : Nat)]) ∧ w = w' := by
  have h := rhalf_any x hx w
  rw [← show Hm.half x = Hm.rhalf x from Hm.halves ⟨x, hx⟩] at h
  exact h
theorem Hm.hb_of {W : List Nat} {k x : Nat} (h : W[k]? = some x) : Hm.hb W k = (Hm.half x).1 := by
  unfold Hm.hb; rw [List.getD_eq_getElem?_getD, h]; rfl
theorem Hm.cnt_of {W : List Nat} {k x : Nat} (h : W[k]? = some x) : Hm.cnt W (k + 1) = Hm.cnt W k + (Hm.half x).2.1 := by
  show Hm.cnt W k + (Hm.half (W.getD k 0)).2.1 = _; rw [List.getD_eq_getElem?_getD, h]; rfl
set_option maxRecDepth 100000 in
set_option maxHeartbeats 2000000 in
theorem runpack_in (A : Option Addr) (c : Nat) (W : List Nat) (hl : W.length ≤ 8192) (he : W.length % 2 = 0) (hb : Byt W) (w : World) (hA : Rd w.heap.size w A (u8s W)) :
    Calls Try.prog 19 #[.slice A W.length c] w (UnpR W w) := by
  obtain ⟨i0, hi, hz0, hz1, hz2⟩ := info_parts Try.inf8
  have HA := hide hA
  have HBy := hide hb
  have HE2 := hide he
  have e1 : ((W.length : Int) % 2 != 0) = false := by simp; omega
  have hl2 : (W.length : Int) ≤ 8192 := by omega
  clear hA hb he
  go_enter Try.func19, Try.ntmps19
  go_wp2
  go_loopw [5, 6, 7] (fun v m i wr => ∃ k : Nat, 2 * k ≤ W.length ∧ i = .int .i64 (2 * k : Nat) ∧ (∃ z : Nat, z ≤ 8192 ∧ Hid (z = Hm.cnt W (2 * k)) ∧ m = .int .i64 z) ∧ Hid (Hm.okW W (2 * k)) ∧ wr.ownsRow w.heap.size 5 1 v k (u8s (Hm.rbytes W k)) ∧ Below w.heap.size w wr) (fun _ _ i _ => W.length - (intOf i).toNat)
  case atStart => exact ⟨0, Nat.zero_le _, rfl, ⟨0, by omega, rfl, rfl⟩, fun j x h => absurd h (by omega), World.ownsRow_nil _ _ _ _, Below.refl _ _⟩
  case round =>
    obtain ⟨k, hk, rfl, ⟨m, hm, hmc, rfl⟩, hok, hownr, hb⟩ := hrel
    by_cases hlt : 2 * k < W.length
    · have hlt2 : 2 * k + 1 < W.length := by have := HE2.out; omega
      obtain ⟨x, hx⟩ : ∃ x, W[2 * k]? = some x := ⟨_, List.getElem?_eq_getElem hlt⟩
      obtain ⟨y, hy⟩ : ∃ y, W[2 * k + 1]? = some y := ⟨_, List.getElem?_eq_getElem hlt2⟩
      obtain ⟨b1, o1, rfl, hbb, hc1⟩ := (HA.out.below hb (Nat.le_refl _)).at_ (u8s_get hx)
      obtain ⟨b2, o2, h2, hbb2, hc2⟩ := (HA.out.below hb (Nat.le_refl _)).at_ (u8s_get hy)
      obtain ⟨rfl, rfl⟩ : b1 = b2 ∧ o1 = o2 := by simpa using h2
      have hx256 : x < 256 := HBy.out.at_ hx
      have hy256 : y < 256 := HBy.out.at_ hy
      have H1 := hide (fun V => rhalf_of x hx256 V)
      have H2 := hide (fun V => rhalf_of y hy256 V)
      have hxo := Hm.half_ok ⟨x, hx256⟩
      have hyo := Hm.half_ok ⟨y, hy256⟩
      simp only at hxo hyo
      obtain ⟨hx1, hx2, hx4⟩ := hxo
      obtain ⟨hy1, hy2, hy4⟩ := hyo
      have hx3 : (Hm.half x).2.2 = 0 ∨ (Hm.half x).2.2 = 100 := hx4.imp id (fun h => by rw [h])
      have hy3 : (Hm.half y).2.2 = 0 ∨ (Hm.half y).2.2 = 100 := hy4.imp id (fun h => by rw [h])
      clear hx4 hy4
      have HOK := hide (fun hx0 hy0 => okW_succ (okW_succ hok.out hx hx0) hy hy0)
      have HNX := hide (fun (h : ¬ (Hm.half x).2.2 = 0) (hw : Hm.okW W W.length) => h (hw (2 * k) x hlt hx))
      have HNY := hide (fun (h : ¬ (Hm.half y).2.2 = 0) (hw : Hm.okW W W.length) => h (hw (2 * k + 1) y hlt2 hy))
      have hcn : Hm.cnt W (2 * k + 2) = m + (Hm.half x).2.1 + (Hm.half y).2.1 := by rw [hmc.out, Hm.cnt_of (k := 2 * k + 1) hy, Hm.cnt_of hx]
      have hrb := Hm.rbytes_succ W k
      rw [Hm.hb_of hx, Hm.hb_of hy] at hrb
      have hck : m ≤ 2 * k := by rw [hmc.out]; exact Hm.cnt_le W HBy.out _ hk
      obtain ⟨⟨p, q, r⟩, hp⟩ : ∃ p, p = Hm.half x := ⟨_, rfl⟩
      obtain ⟨⟨p', q', r'⟩, hp'⟩ : ∃ p, p = Hm.half y := ⟨_, rfl⟩
      rw [← hp] at H1 HOK HNX hcn hrb hx1 hx2 hx3
      rw [← hp'] at H2 HOK HNY hcn hrb hy1 hy2 hy3
      simp only at H1 H2 HOK HNX HNY hcn hrb hx1 hx2 hx3 hy1 hy2 hy3
      have HCN := hide hcn
      have HRB := hide hrb
      have HB := hide hb
      clear hp hp' hx hy hcn hrb h2
      by_cases hr : r = 0
      · subst hr
        by_cases hr' : r' = 0
        · subst hr'
          have g1 : k + 1 ≤ 9223372036854775807 := by omega
          have g2 : (k + 1) * 1 ≤ 140737488355328 := by omega
          have hB := hb.size
          have HN2 := hide hok
          clear hx3 hy3 hb hok
          go_wp2_with fail
          refine (H1.out _).mono ?_; rintro e w' ⟨rfl, rfl⟩
          go_wp2_with fail
          refine (H2.out _).mono ?_; rintro e w' ⟨rfl, rfl⟩
          go_wp2_with (at_builtin; refine wpList_app1 _ rfl (.tmp 54) (.tmp 60) 39 rfl w.heap.size 5 i0 (.int .u8 0) 1 Try.underlying39 hi hz0 hz1 hz2 rfl _ _ _ rfl hownr _ rfl (by rfl) g1 g2 hB ?_; intro v' w2 hown1 hg1 hat1)
          go_roundw
          case rel =>
            refine ⟨k + 1, by omega, by go_num, ⟨m + q + q', by omega, by show _ = _; rw [show 2 * (k + 1) = 2 * k + 2 by omega, HCN.out], by go_num⟩, ?_, ?_, below_app HB.out hownr hg1 hB⟩
            · exact HOK.out trivial trivial
            · rw [HRB.out, u8s_app]
              exact hown1
          case measure => simp [intOf]; omega
        · have hr100 : r' = 100 := by omega
          subst hr100
          have HNOK := hide (HNY.out hr')
          clear hx3 hy3 hb hok hownr hr'
          go_wp2_with fail
          refine (H1.out _).mono ?_; rintro e w' ⟨rfl, rfl⟩
          go_wp2_with fail
          refine (H2.out _).mono ?_; rintro e w' ⟨rfl, rfl⟩
          go_wp2
          go_ret3
          exact ⟨⟨none, [], 0, 0, 100, rfl, World.ownsRow_nil _ _ _ _, .inr (.inr (.inl ⟨hl, HE2.out, HNOK.out, rfl, rfl, rfl⟩))⟩, HB.out⟩
      · have hr100 : r = 100 := by omega
        subst hr100
        have HNOK := hide (HNX.out hr)
        have hr'2 : r' = 0 ∨ r' = 100 := hy3
        clear hx3 hy3 hb hok hownr hr
        rcases hr'2 with rfl | rfl
        all_goals
          go_wp2_with fail
          refine (H1.out _).mono ?_; rintro e w' ⟨rfl, rfl⟩
          go_wp2_with fail
          refine (H2.out _).mono ?_; rintro e w' ⟨rfl, rfl⟩
          go_wp2
          go_ret3
          exact ⟨⟨none, [], 0, 0, 100, rfl, World.ownsRow_nil _ _ _ _, .inr (.inr (.inl ⟨hl, HE2.out, HNOK.out, rfl, rfl, rfl⟩))⟩, HB.out⟩
    · have hkk : 2 * k = W.length := by omega
      go_wp2
      go_ret3
      obtain ⟨A', c', rfl, _⟩ := own_val hownr
      have hk2 : k = W.length / 2 := by omega
      have hrl : (Hm.rbytes W k).length = k := by simp [Hm.rbytes]
      rw [hkk] at hok hmc
      refine ⟨⟨A', Hm.rbytes W k, c', m, 0, by rw [hrl]; rfl, by rw [hrl]; exact hownr, .inr (.inr (.inr ⟨hl, HE2.out, hok.out, by rw [hk2], hmc.out, rfl⟩))⟩, hb⟩
theorem runpack_any (A : Option Addr) (c : Nat) (W : List Nat) (hb : Byt W) (hll : W.length ≤ 9223372036854775807) (w : World) (hA : Rd w.heap.size w A (u8s W)) :
    Calls Try.prog 19 #[.slice A W.length c] w (UnpR W w) := by
  by_cases hl : 8192 < W.length
  · clear hb hA
    have hl2 : (8192 : Int) < (W.length : Int) := by omega
    go_enter Try.func19, Try.ntmps19
    go_wp2
    go_ret3
    exact ⟨⟨none, [], 0, 0, 2, rfl, World.ownsRow_nil _ _ _ _, .inl ⟨hl, rfl, rfl, rfl⟩⟩, Below.refl _ _⟩
  · by_cases he : W.length % 2 = 0
    · exact runpack_in A c W (by omega) he hb w hA
    · clear hb hA
      have hl2 : ¬ (8192 : Int) < (W.length : Int) := by omega
      have e1 : ((W.length : Int) % 2 != 0) = true := by simp; omega
      go_enter Try.func19, Try.ntmps19
      go_wp2
      go_ret3
      exact ⟨⟨none, [], 0, 0, 1, rfl, World.ownsRow_nil _ _ _ _, .inr (.inl ⟨by omega, by omega, rfl, rfl, rfl⟩)⟩, Below.refl _ _⟩
end Go.Proofs.Ytnoefbmdpbljhaa
