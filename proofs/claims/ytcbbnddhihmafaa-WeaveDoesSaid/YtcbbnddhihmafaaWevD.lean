/- The reference of layer 11: Bits and Text, by what they compute. No conditions. -/
import Derived.Test.YtcbbnddhihmafaaWevC
namespace Go.Proofs.Ytcbbnddhihmafaa
open Go.RowKit
set_option linter.unusedVariables false

/-- the first so many bits of a text. -/
def We.bitsTo (b : List Nat) (k : Nat) : List Nat := (List.range k).map (We.bitAt b)
theorem We.bitsTo_length (b : List Nat) (k : Nat) : (We.bitsTo b k).length = k := by simp [We.bitsTo]
theorem We.bitsTo_succ (b : List Nat) (k : Nat) : We.bitsTo b (k + 1) = We.bitsTo b k ++ [We.bitAt b k] := by simp [We.bitsTo, List.range_succ]
theorem We.bitsTo_get (b : List Nat) {k i : Nat} (h : i < k) : (We.bitsTo b k)[i]? = some (We.bitAt b i) := by simp [We.bitsTo, h]
theorem We.mask (j : Nat) (h : j < 8) : 128 / 2 ^ j = 2 ^ (7 - j) := by
  rcases (show j = 0 ∨ j = 1 ∨ j = 2 ∨ j = 3 ∨ j = 4 ∨ j = 5 ∨ j = 6 ∨ j = 7 by omega) with rfl | rfl | rfl | rfl | rfl | rfl | rfl | rfl <;> rfl
theorem We.mask_next (j : Nat) : 128 / 2 ^ j / 2 = 128 / 2 ^ (j + 1) := by rw [Nat.div_div_eq_div_mul, Nat.pow_succ]
theorem bit_value {l : List Nat} {i j x : Nat} (hj : j < 8) (hx8 : x < 256) (hx : l[i]? = some x) : (wrap64 ((x : Int) / ((128 / 2 ^ j : Nat) : Int))).tmod 2 = ((We.bitAt l (8 * i + j) : Nat) : Int) := by
  have h1 : 0 ≤ (x : Int) / ((128 / 2 ^ j : Nat) : Int) := Int.ediv_nonneg (Int.natCast_nonneg _) (Int.natCast_nonneg _)
  have h2 : (x : Int) / ((128 / 2 ^ j : Nat) : Int) ≤ (x : Int) := Int.ediv_le_self _ (Int.natCast_nonneg _)
  rw [IntWalk.wrap64_in _ ⟨by omega, by omega⟩, Int.tmod_eq_emod_of_nonneg h1]
  rw [We.bitAt_of l i j hj, We.mask j hj]
  simp [List.getD_eq_getElem?_getD, hx]

set_option maxHeartbeats 400000 in
/-- the reference's Bits -/
theorem rbits_any (A : Option Addr) (c : Nat) (l : List Nat) (hl : l.length ≤ 100000) (hB : Byt l) (w : World) (hA : Rd w.heap.size w A (u8s l)) :
    Calls Try.prog 69 #[.slice A l.length c] w fun e w' =>
    ∃ v, e = .returned v ∧ w'.ownsRow w.heap.size 3 1 v (8 * l.length) (n64s (We.bitsTo l (8 * l.length))) ∧ Below w.heap.size w w' := by
  obtain ⟨i0, hi, hz0, hz1, hz2⟩ := info_parts Try.infI
  have HA := hide hA
  have HB := hide hB
  clear hA hB
  go_enter Try.func69, Try.ntmps69
  go_wp2
  go_loopw [3, 4] (fun v i wr => ∃ k : Nat, k ≤ l.length ∧ i = .int .i64 k ∧ wr.ownsRow w.heap.size 3 1 v (8 * k) (n64s (We.bitsTo l (8 * k))) ∧ Below w.heap.size w wr) (fun _ i _ => l.length - (intOf i).toNat)
  case atStart => exact ⟨0, Nat.zero_le _, rfl, World.ownsRow_nil _ _ _ _, Below.refl _ _⟩
  case round =>
    obtain ⟨k, hk, rfl, hownr, hb⟩ := hrel
    by_cases hlt : k < l.length
    · obtain ⟨x, hx⟩ : ∃ x, l[k]? = some x := ⟨_, List.getElem?_eq_getElem hlt⟩
      have hx8 := HB.out.at_ hx
      obtain ⟨b1, o1, rfl, hbb, hc1⟩ := (HA.out.below hb (Nat.le_refl _)).at_ (u8s_get hx)
      have HX := hide hx
      clear hx
      obtain ⟨wo, rfl⟩ : ∃ wo : World, wo = wr := ⟨_, rfl⟩
      go_wp2
      go_loopw [3, 6] (fun v q wi => ∃ j : Nat, j ≤ 8 ∧ q = .int .i64 ((128 / 2 ^ j : Nat) : Int) ∧ wi.ownsRow w.heap.size 3 1 v (8 * k + j) (n64s (We.bitsTo l (8 * k + j))) ∧ Below w.heap.size w wi) (fun _ q _ => (intOf q).toNat)
      case atStart => exact ⟨0, by omega, rfl, hownr, hb⟩
      case round =>
        obtain ⟨j, hj, rfl, howni, hbi⟩ := hrel
        clear hownr
        by_cases hj8 : j < 8
        · have hq : 0 < 128 / 2 ^ j := by rw [We.mask j hj8]; exact Nat.pow_pos (by omega)
          have hq2 : 128 / 2 ^ j ≤ 128 := Nat.div_le_self _ _
          have HV := hide (bit_value hj8 hx8 HX.out)
          have HN := hide (We.mask_next j)
          obtain ⟨q, hqq⟩ : ∃ q, q = 128 / 2 ^ j := ⟨_, rfl⟩
          have HQ := hide hqq
          rw [← hqq] at hq hq2 HV HN
          rw [← hqq]
          clear hqq
          have e1 : (0 : Int) < (q : Int) := by omega
          have e2 : (1 : Int) ≤ (q : Int) := by omega
          have hB := hbi.size
          have g1 : 8 * k + j + 1 ≤ 9223372036854775807 := by omega
          have g2 : (8 * k + j + 1) * 8 ≤ 140737488355328 := by omega
          go_wp2_with (at_builtin; refine wpList_app1 _ rfl (.tmp 22) (.tmp 27) 40 rfl w.heap.size 3 i0 (.int .i64 0) 8 Try.underlying40 hi hz0 hz1 hz2 rfl _ _ _ rfl howni _ rfl (by rfl) g1 g2 hB ?_; intro v' w2 hown1 hg1 hat1)
          go_roundw
          case rel =>
            refine ⟨j + 1, by omega, ?_, ?_, below_app hbi howni hg1 hB⟩
            · rw [← HN.out]; congr 1
            · rw [show 8 * k + (j + 1) = 8 * k + j + 1 by omega, We.bitsTo_succ, n64s_app]
              rw [HV.out] at hown1
              exact hown1
          case measure => simp [intOf]; omega
        · obtain rfl : j = 8 := by omega
          go_wp2
          go_roundw
          case rel => exact ⟨k + 1, by omega, by go_num, howni, hbi⟩
          case measure => simp [intOf]; omega
    · obtain rfl : k = l.length := by omega
      go_wp2
      go_ret
      exact ⟨_, rfl, hownr, hb⟩

/-- eight bits, one behind the other. -/
def We.hor (y : List Nat) (s : Nat) : Nat → Nat
  | 0 => 0
  | k + 1 => 2 * We.hor y s k + y.getD (s + k) 0
theorem We.hor_lt {y : List Nat} (h : We.Bit y) (s k : Nat) : We.hor y s k < 2 ^ k := by
  induction k with
  | zero => simp [We.hor]
  | succ k ih => have := h (s + k); simp only [We.hor, Nat.pow_succ]; omega
theorem We.hor_small {y : List Nat} (h : We.Bit y) (s k : Nat) (hk : k ≤ 8) : We.hor y s k ≤ 255 := by
  have := We.hor_lt h s k
  have : 2 ^ k ≤ 2 ^ 8 := Nat.pow_le_pow_right (by omega) hk
  omega
theorem We.hor8 (y : List Nat) (s : Nat) : We.hor y s 8 = We.val8 y s := by simp only [We.hor, We.val8, Nat.add_zero]; omega
theorem We.pack_succ (y : List Nat) (t : Nat) : We.pack (t + 1) y = We.pack t y ++ [We.val8 y (8 * t)] := by simp [We.pack, List.range_succ]

set_option maxHeartbeats 400000 in
/-- the reference's Text, of eight bits a byte -/
theorem rtext_any (A : Option Addr) (n c m : Nat) (y : List Nat) (hn : n = y.length) (hy : y.length = 8 * m) (hl : m ≤ 100000) (hB : We.Bit y) (w : World) (hA : Rd w.heap.size w A (n64s y)) :
    Calls Try.prog 70 #[.slice A n c] w fun e w' =>
    ∃ v, e = .returned v ∧ w'.ownsRow w.heap.size 5 1 v m (u8s (We.pack m y)) ∧ Below w.heap.size w w' := by
  subst hn
  obtain ⟨i0, hi, hz0, hz1, hz2⟩ := info_parts Try.inf8
  have HA := hide hA
  have HB := hide hB
  have HY := hide hy
  have hy1 : y.length ≤ 8 * m := by omega
  have hy2 : 8 * m ≤ y.length := by omega
  clear hA hB hy
  go_enter Try.func70, Try.ntmps70
  go_wp2
  go_loopw [3, 4] (fun v i wr => ∃ t : Nat, t ≤ m ∧ i = .int .i64 ((8 * t : Nat) : Int) ∧ wr.ownsRow w.heap.size 5 1 v t (u8s (We.pack t y)) ∧ Below w.heap.size w wr) (fun _ i _ => 8 * m - (intOf i).toNat)
  case atStart => exact ⟨0, Nat.zero_le _, rfl, World.ownsRow_nil _ _ _ _, Below.refl _ _⟩
  case round =>
    obtain ⟨t, ht, rfl, hownr, hb⟩ := hrel
    by_cases hlt : t < m
    · obtain ⟨s, hs⟩ : ∃ s, s = 8 * t := ⟨_, rfl⟩
      have HS := hide hs
      have hs1 : s + 8 ≤ y.length := by omega
      rw [← hs]
      clear hs
      obtain ⟨wo, rfl⟩ : ∃ wo : World, wo = wr := ⟨_, rfl⟩
      have hs2 : (s : Int) + 8 ≤ (y.length : Int) := by omega
      go_wp2
      go_loop [5, 6] (fun n k => ∃ j : Nat, j ≤ 8 ∧ k = .int .i64 j ∧ n = .int .i64 ((We.hor y s j : Nat) : Int)) (fun _ k => 8 - (intOf k).toNat)
      case atStart => exact ⟨0, by omega, rfl, rfl⟩
      case round =>
        obtain ⟨j, hj, rfl, rfl⟩ := hrel
        by_cases hj8 : j < 8
        · obtain ⟨b1, o1, rfl, hbb, hc1⟩ := (HA.out.below hb (Nat.le_refl _)).at_ (n64s_get (getD_of (show s + j < y.length by omega)))
          have hsm := We.hor_small HB.out s j hj
          have hbit := HB.out (s + j)
          have HE : Hid (2 * ((We.hor y s j : Nat) : Int) + ((y.getD (s + j) 0 : Nat) : Int) = ((We.hor y s (j + 1) : Nat) : Int)) := by show _ = _; simp only [We.hor]; omega
          obtain ⟨z, hz⟩ : ∃ z, z = y.getD (s + j) 0 := ⟨_, rfl⟩
          rw [← hz] at hc1 hbit HE
          clear hz
          obtain ⟨h0, hh0⟩ : ∃ h0, h0 = We.hor y s j := ⟨_, rfl⟩
          rw [← hh0] at hsm HE
          rw [← hh0]
          have HH := hide hh0
          clear hh0
          have e1 : (s : Int) + (j : Int) < (y.length : Int) := by omega
          have e2 : (z : Int) ≤ 1 := by omega
          have e3 : (h0 : Int) ≤ 255 := by omega
          go_wp2
          go_round
          case rel => exact ⟨j + 1, by omega, by go_num, by rw [HE.out]⟩
          case measure => simp [intOf]; omega
        · obtain rfl : j = 8 := by omega
          have hsm := We.hor_small HB.out s 8 (by omega)
          have HE : Hid (((We.hor y s 8 : Nat) : Int) % 256 = ((We.val8 y s : Nat) : Int)) := by show _ = _; rw [We.hor8] at *; omega
          obtain ⟨h0, hh0⟩ : ∃ h0, h0 = We.hor y s 8 := ⟨_, rfl⟩
          rw [← hh0] at HE
          rw [← hh0]
          clear hh0 hsm
          have hB := hb.size
          have g1 : t + 1 ≤ 9223372036854775807 := by omega
          have g2 : (t + 1) * 1 ≤ 140737488355328 := by omega
          go_wp2_with (at_builtin; refine wpList_app1 _ rfl (.tmp 27) (.tmp 30) 28 rfl w.heap.size 5 i0 (.int .u8 0) 1 Try.underlying28 hi hz0 hz1 hz2 rfl _ t _ rfl hownr _ rfl (by rfl) g1 g2 hB ?_; intro v' w2 hown1 hg1 hat1)
          go_roundw
          case rel =>
            refine ⟨t + 1, by omega, by have := HS.out; go_num, ?_, below_app hb hownr hg1 hB⟩
            rw [We.pack_succ, u8s_app, ← HS.out]
            rw [HE.out] at hown1
            exact hown1
          case measure => have := HS.out; simp [intOf]; omega
    · obtain rfl : t = m := by omega
      go_wp2
      go_ret
      exact ⟨_, rfl, hownr, hb⟩
end Go.Proofs.Ytcbbnddhihmafaa
