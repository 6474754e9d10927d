/- octet.Join. No conditions. -/
import Derived.Test.YtnbhgeodbpelgaaQueM
import Derived.Test.YtnbhgeodbpelgaaQueF
import Derived.Test.YtnbhgeodbpelgaaApp
namespace Go.Proofs.Ytnbhgeodbpelgaa
open Go.RowKit
set_option linter.unusedVariables false

/-! ### Join -/
theorem flat_take {ms : List (List Nat)} {k : Nat} {m : List Nat} (h : ms[k]? = some m) : (ms.take (k + 1)).flatten = (ms.take k).flatten ++ m := by
  rw [List.take_add_one, h]; simp
theorem flat_le (ms : List (List Nat)) (k : Nat) : (ms.take k).flatten.length ≤ ms.flatten.length := by
  have : (ms.take k).flatten.length + (ms.drop k).flatten.length = ms.flatten.length := by
    rw [← List.length_append, ← List.flatten_append, List.take_append_drop]
  omega
set_option maxRecDepth 100000 in
set_option maxHeartbeats 1000000 in
theorem join_any {A : Option Addr} {c : Nat} {vs : List Value} {ms : List (List Nat)} {w : World} (hA : Rd w.heap.size w A vs) (ht : Txs w vs ms) (hl : ms.length ≤ 1099511627776) (hf : ms.flatten.length ≤ 1099511627776) :
    Calls Try.prog 88 #[.slice A ms.length c] w (NewT ms.flatten w) := by
  obtain ⟨i0, hi, hz0, hz1, hz2⟩ := info_parts Try.inf8
  have HA := hide hA
  have HT := hide ht
  clear hA ht
  have hb1 : i0.bytes * ms.flatten.length ≤ 281474976710656 := by rw [hz2]; omega
  have hb2 : ms.flatten.length ≤ maxLen := by unfold maxLen; omega
  have HB1 := hide hb1
  have HB2 := hide hb2
  have HF := hide hf
  clear hb1 hb2 hf
  go_enter Try.func88, Try.ntmps88
  go_wp2
  go_loop [3, 11] (fun s i => ∃ k : Nat, k ≤ ms.length ∧ i = .int .i64 k ∧ ∃ n : Nat, n ≤ 1099511627776 ∧ s = .int .i64 (n : Nat) ∧ Hid (n = (ms.take k).flatten.length)) (fun _ i => ms.length - (intOf i).toNat)
  case atStart => exact ⟨0, Nat.zero_le _, rfl, 0, by omega, rfl, rfl⟩
  case round =>
    obtain ⟨k, hk, rfl, n, hn, rfl, hnn⟩ := hrel
    by_cases hlt : k < ms.length
    · obtain ⟨m, hmk⟩ : ∃ m, ms[k]? = some m := ⟨_, List.getElem?_eq_getElem hlt⟩
      obtain ⟨v, hv, X, cx, rfl, hX⟩ := HT.out.2 k m hmk
      obtain ⟨b1, o1, rfl, _, hc1⟩ := HA.out.at_ hv
      have hs : Hid (n + m.length = (ms.take (k + 1)).flatten.length) := by show _ = _; rw [flat_take hmk, List.length_append, hnn.out]
      have hle : n + m.length ≤ 1099511627776 := by have := hs.out; have := flat_le ms (k + 1); have := HF.out; omega
      clear hmk hX hv
      go_wp2
      go_round
      case rel => exact ⟨k + 1, by omega, by go_num, n + m.length, hle, by go_num, hs⟩
      case measure => simp [intOf]; omega
    · obtain rfl : k = ms.length := by omega
      have hnf : n = ms.flatten.length := by rw [hnn.out, List.take_length]
      have hb1 : i0.bytes * n ≤ 281474976710656 := by rw [hnf]; exact HB1.out
      have hb2 : n ≤ maxLen := by rw [hnf]; exact HB2.out
      clear hlt hnn hnf
      go_wp2_with (at_make; refine wpList_make_own _ rfl _ _ _ rfl w.heap.size 5 i0 (.int .u8 0) 1 Try.underlying34 hi hz0 hz1 .i64 .i64 _ n rfl rfl (by omega) hb1 hb2 (Nat.le_refl _) ?_; intro w1 hown hgrow)
      have hbel : Below w.heap.size w w1 := (Below.refl _ _).grown hgrow (Nat.le_refl _) (by intro k h; cases h)
      clear hgrow
      go_loopw [6, 24] (fun V i wr => ∃ k : Nat, k ≤ ms.length ∧ i = .int .i64 k ∧ wr.ownsRow w.heap.size 5 1 V (ms.take k).flatten.length (u8s (ms.take k).flatten) ∧ Hid (Below w.heap.size w wr)) (fun _ i _ => ms.length - (intOf i).toNat)
      case atStart => exact ⟨0, Nat.zero_le _, rfl, hown, hbel⟩
      case round =>
        obtain ⟨k, hk, rfl, hownr, HB⟩ := hrel
        clear hown hbel
        by_cases hlt : k < ms.length
        · obtain ⟨m, hmk⟩ : ∃ m, ms[k]? = some m := ⟨_, List.getElem?_eq_getElem hlt⟩
          obtain ⟨v, hv, X, cx, rfl, hX⟩ := HT.out.2 k m hmk
          obtain ⟨b1, o1, rfl, _, hc1⟩ := (HA.out.below HB.out (Nat.le_refl _)).at_ hv
          have HX := hide (hX.on HB.out)
          have HS := hide (flat_take hmk)
          obtain ⟨q, hq⟩ : ∃ q, q = (ms.take k).flatten := ⟨_, rfl⟩
          rw [← hq] at hownr HS
          have hql : q.length + m.length ≤ 1099511627776 := by have := flat_le ms (k + 1); rw [HS.out, List.length_append] at this; have := HF.out; omega
          have g1 : q.length + (u8s m).length ≤ 9223372036854775807 := by rw [u8s_length]; omega
          have g2 : (q.length + (u8s m).length) * 1 ≤ 140737488355328 := by rw [u8s_length]; omega
          have hB := HB.out.size
          have hm3 : m.length = (u8s m).length := (u8s_length m).symm
          have HM3 := hide hm3
          clear hmk hX hv hq hql hm3
          go_wp2_with (at_builtin; refine wpList_appN _ rfl (.tmp 28) (.tmp 29) 34 rfl w.heap.size 5 i0 (.int .u8 0) 1 Try.underlying34 hi hz0 hz1 hz2 rfl _ _ _ rfl hownr X cx wr.heap.size m.length (u8s m) (by rfl) HM3.out HX.out (u8s_one m) g1 g2 hB ?_; intro v' w2 hown1 hg1 hat1)
          go_roundw
          case rel =>
            refine ⟨k + 1, by omega, by go_num, ?_, below_app HB.out hownr hg1 hB⟩
            rw [HS.out, List.length_append, u8s_app, HM3.out]
            exact hown1
          case measure => simp [intOf]; omega
        · obtain rfl : k = ms.length := by omega
          go_wp2
          go_ret
          rw [List.take_length] at hownr
          obtain ⟨A', c', rfl, _⟩ := own_val hownr
          exact ⟨A', c', rfl, hownr, HB.out⟩
/-- a text, joined by itself. -/
theorem join_one (w : World) (D : Option Addr) (c : Nat) (m : List Nat) (hD : Rd w.heap.size w D (u8s m)) (hm : m.length ≤ 1099511627776) :
    Calls Try.prog 88 #[.slice (some ⟨w.heap.size, 0, none⟩) 1 1] (w.alloc (.cells #[.slice D m.length c] 34)) (NewT m (w.alloc (.cells #[.slice D m.length c] 34))) := by
  have h := join_any (w := w.alloc (.cells #[.slice D m.length c] 34)) (A := some ⟨w.heap.size, 0, none⟩) (c := 1) (vs := [.slice D m.length c]) (ms := [m])
    (fun _ => ⟨w.heap.size, 0, rfl, by simp, fun j u hj => by rw [Nat.zero_add]; exact (Blk.new w 34 [.slice D m.length c]).cell hj⟩)
    ((Txs.nil _).snoc ⟨D, c, rfl, hD.on ((Below.refl _ _).alloc (Nat.le_refl _) _)⟩) (by simp) (by simpa using hm)
  rw [show ([m] : List (List Nat)).flatten = m by simp] at h
  exact h
end Go.Proofs.Ytnbhgeodbpelgaa
