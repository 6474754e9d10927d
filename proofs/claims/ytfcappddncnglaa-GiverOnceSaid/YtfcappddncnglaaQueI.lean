/- SameAll of one list; layer 19's huge. No conditions. -/
import Derived.Test.YtfcappddncnglaaQueG
import Derived.Test.YtfcappddncnglaaInQ
import Derived.Deep.QuietTactic
namespace Go.Proofs.Ytfcappddncnglaa
open Go.RowKit
set_option linter.unusedVariables false

set_option maxHeartbeats 1000000 in
theorem sameAll_eq {A C : Option Addr} {c d : Nat} {vs us : List Value} {ms : List (List Nat)} {w : World} (hA : Rd w.heap.size w A vs) (hC : Rd w.heap.size w C us) (ha : Txs w vs ms) (hc : Txs w us ms) (hl : ms.length ≤ 9223372036854775807) (hm : ∀ m ∈ ms, m.length ≤ 9223372036854775807) :
    Calls Try.prog 28 #[.slice A ms.length c, .slice C ms.length d] w fun e w' => e = .returned (.bool true) ∧ ∃ n, w' = w.drewN n := by
  have HA := hide hA
  have HC := hide hC
  have HTA := hide ha
  have HTC := hide hc
  have HM := hide hm
  clear hA hC ha hc hm
  go_enter Try.func28, Try.ntmps28
  go_wp2
  go_loopw [5] (fun i wr => ∃ k : Nat, k ≤ ms.length ∧ i = .int .i64 k ∧ ∃ n, wr = w.drewN n) (fun i _ => ms.length - (intOf i).toNat)
  case atStart => exact ⟨0, Nat.zero_le _, rfl, 0, rfl⟩
  case round =>
    obtain ⟨k, hk, rfl, n, hwr⟩ := hrel
    by_cases hlt : k < ms.length
    · obtain ⟨m, hmk⟩ : ∃ m, ms[k]? = some m := ⟨_, List.getElem?_eq_getElem hlt⟩
      obtain ⟨v, hv, X, cx, rfl, hX⟩ := HTA.out.2 k m hmk
      obtain ⟨u, hu, Y, cy, rfl, hY⟩ := HTC.out.2 k m hmk
      obtain ⟨b1, o1, rfl, _, hc1⟩ := (show Rd w.heap.size (w.drewN n) A vs from HA.out).at_ hv
      obtain ⟨b2, o2, rfl, _, hc2⟩ := (show Rd w.heap.size (w.drewN n) C us from HC.out).at_ hu
      rw [← hwr] at hc1 hc2
      have HW := hide hwr
      have HS := hide (fun q => same_eq (w := (wr.drewN q)) (c := cx) (d := cy) (B := wr.heap.size) (by rw [hwr]; exact hX) (by rw [hwr]; exact hY) (HM.out m (List.mem_of_getElem? hmk)))
      have HS2 := hide (fun q => (same_any X Y cx cy wr.heap.size m m (wr.drewN q) (by rw [hwr]; exact hX) (by rw [hwr]; exact hY) (HM.out m (List.mem_of_getElem? hmk))))
      have g0 : (0 : Int) ≤ (k : Int) := by omega
      have g1 : (k : Int) < (ms.length : Int) := by omega
      have hmm : (m == m) = true := by simp
      rw [hmm] at HS2
      clear hwr hmk hX hY hv hu HS hmm
      go_wp2
      go_quiet (first | (go_at_call 20; exact Calls.quiet_of (HS2.out _)))
      go_wp2
      go_roundw
      case rel => exact ⟨k + 1, by omega, by go_num, n + nq, by rw [HW.out, World.drewN_drewN]⟩
      case measure => simp [intOf]; omega
    · go_wp2
      go_ret
      exact ⟨rfl, n, rfl⟩
/-- what huge tells: if not, there are few acts, all short. -/
def HugeR (l : List (Bool × List Nat)) (w : World) (e : Ending) (w' : World) : Prop := ∃ b : Bool, e = .returned (.bool b) ∧ w = w' ∧ (b = false → l.length ≤ 100 ∧ ∀ (k : Nat) p m, l[k]? = some (p, m) → m.length ≤ 200)
set_option maxRecDepth 100000 in
theorem huge19 {w : World} {a : Option Addr} {c : Nat} {l : List (Bool × List Nat)} (h : InA19 w a c l) :
    Calls Try.prog 13 #[.slice a l.length c] w (HugeR l w) := by
  have HA := hide h
  have hll : l.length ≤ 9223372036854775807 := Nat.le_trans h.cap h.max
  clear h
  go_enter Try.func13, Try.ntmps13
  go_wp2
  go_loop [3] (fun i => ∃ k : Nat, k ≤ l.length ∧ k ≤ 200 ∧ i = .int .i64 k ∧ Hid (∀ (j : Nat) p m, j < k → l[j]? = some (p, m) → m.length ≤ 200)) (fun i => 200 - (intOf i).toNat)
  case atStart => exact ⟨0, Nat.zero_le _, by omega, rfl, fun j p m h => absurd h (by omega)⟩
  case round =>
    obtain ⟨k, hk, hk2, rfl, hr⟩ := hrel
    by_cases hlt : k < l.length ∧ k < 200
    · obtain ⟨hlt, hlt2⟩ := hlt
      obtain ⟨⟨p, m⟩, hpm⟩ : ∃ x, l[k]? = some x := ⟨_, List.getElem?_eq_getElem hlt⟩
      obtain ⟨b, o, u, rfl, _, h1, h2, A, cA, rfl, _, _, hml⟩ := HA.out.rd k p m hpm
      have HP := hide hpm
      clear hpm
      by_cases h200 : 200 < m.length
      · go_wp2
        go_ret
        exact ⟨true, rfl, rfl, fun h => by cases h⟩
      · go_wp2
        go_round
        case rel =>
          refine ⟨k + 1, by omega, by omega, by go_num, fun j p' m' hj hjm => ?_⟩
          by_cases e : j = k
          · subst e
            have := HP.out.symm.trans hjm
            injection this with this; injection this with _ this
            subst this; omega
          · exact hr.out j p' m' (by omega) hjm
        case measure => simp [intOf]; omega
    · by_cases h1 : k < l.length
      · have h2 : k = 200 := by omega
        subst h2
        have h100 : 100 < l.length := by omega
        clear hlt h100
        go_wp2
        go_ret
        exact ⟨decide ((100 : Int) < (l.length : Int)), rfl, rfl, fun h => by have := of_decide_eq_false h; omega⟩
      · obtain rfl : k = l.length := by omega
        clear hlt h1 hk2
        go_wp2
        go_ret
        exact ⟨decide ((100 : Int) < (l.length : Int)), rfl, rfl, fun h => ⟨by have := of_decide_eq_false h; omega, fun k p m hkm => hr.out k p m (List.getElem?_eq_some_iff.1 hkm).1 hkm⟩⟩
end Go.Proofs.Ytfcappddncnglaa
