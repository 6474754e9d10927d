/- The reference of layer 11: Order, by what it computes. No conditions. -/
import Derived.Test.YtcbbnddhihmafaaWevA
namespace Go.Proofs.Ytcbbnddhihmafaa
open Go.RowKit
set_option linter.unusedVariables false

theorem cols_lt (n rows c : Nat) (h : 0 < rows) : c * rows < n ↔ c < We.cols n rows := by
  constructor
  · intro hc
    have h1 := We.cols_ge n rows h
    rcases Nat.lt_or_ge c (We.cols n rows) with h2 | h2
    · exact h2
    · have := Nat.mul_le_mul_right rows h2
      omega
  · intro hc
    rcases Nat.lt_or_ge (c * rows) n with h2 | h2
    · exact h2
    · have := We.cols_least n rows c h h2
      omega

set_option maxHeartbeats 400000 in
/-- the reference's Order -/
theorem rorder_any (n rows : Nat) (hn : n ≤ 65536) (hr : 0 < rows) (hr2 : rows ≤ 64) (w : World) : Calls Try.prog 63 #[.int .i64 (n : Int), .int .i64 (rows : Int)] w fun e w' =>
    ∃ v, e = .returned v ∧ w'.ownsRow w.heap.size 3 1 v (We.ord n rows).length (n64s (We.ord n rows)) ∧ Below w.heap.size w w' := by
  obtain ⟨i0, hi, hz0, hz1, hz2⟩ := info_parts Try.infI
  obtain ⟨cs, hcs⟩ : ∃ cs, cs = We.cols n rows := ⟨_, rfl⟩
  have hcle : cs ≤ 65536 := by rw [hcs]; exact Nat.le_trans (We.cols_le n rows hr) hn
  have HCS := hide hcs
  have HORD : Hid (We.ord n rows = We.ordTo n cs rows cs) := by show _ = _; rw [hcs]; rfl
  clear hcs
  have h1 : (n : Int) ≤ 65536 := by omega
  have h3 : (rows : Int) ≤ 64 := by omega
  have h4 : (cs : Int) ≤ 65536 := by omega
  go_enter Try.func63, Try.ntmps63
  go_wp2
  go_loop [5] (fun i => ∃ c : Nat, c ≤ cs ∧ i = .int .i64 c) (fun i => cs - (intOf i).toNat)
  case atStart => exact ⟨0, Nat.zero_le _, rfl⟩
  case round =>
    obtain ⟨c, hc, rfl⟩ := hrel
    have hml := mul_bd rows c hr2 (by omega)
    rw [Int.mul_comm] at hml
    obtain ⟨hm1, hm2⟩ := hml
    have hiff := cols_lt n rows c hr
    rw [← HCS.out] at hiff
    by_cases hlt : c < cs
    · have ht : (c : Int) * (rows : Int) < (n : Int) := by have := hiff.2 hlt; have e : (c : Int) * (rows : Int) = ((c * rows : Nat) : Int) := by rw [Int.natCast_mul]
                                                           rw [e]; omega
      clear hiff
      go_wp2
      go_round
      case rel => exact ⟨c + 1, by omega, by go_num⟩
      case measure => simp [intOf]; omega
    · have ht : ¬ (c : Int) * (rows : Int) < (n : Int) := by
        have h5 := fun h => hlt (hiff.1 h)
        have e : (c : Int) * (rows : Int) = ((c * rows : Nat) : Int) := by rw [Int.natCast_mul]
        rw [e]; omega
      obtain rfl : c = cs := by omega
      clear hiff hlt
      go_wp2

      clear ht hm1 hm2
      go_loopw [6, 7] (fun v i wr => ∃ k : Nat, k ≤ c ∧ i = .int .i64 k ∧ wr.ownsRow w.heap.size 3 1 v (We.ordTo n c rows k).length (n64s (We.ordTo n c rows k)) ∧ Below w.heap.size w wr) (fun _ i _ => c - (intOf i).toNat)
      case atStart => exact ⟨0, Nat.zero_le _, rfl, World.ownsRow_nil _ _ _ _, Below.refl _ _⟩
      case round =>
        obtain ⟨k, hk, rfl, hownr, hb⟩ := hrel
        by_cases hlt : k < c
        · obtain ⟨wo, rfl⟩ : ∃ wo : World, wo = wr := ⟨_, rfl⟩
          go_wp2
          go_loopw [6, 8] (fun v i wi => ∃ r : Nat, r ≤ rows ∧ i = .int .i64 r ∧ wi.ownsRow w.heap.size 3 1 v (We.ordTo n c rows k ++ We.col n c k r).length (n64s (We.ordTo n c rows k ++ We.col n c k r)) ∧ Below w.heap.size w wi) (fun _ i _ => rows - (intOf i).toNat)
          case atStart => exact ⟨0, Nat.zero_le _, rfl, by simpa [We.col] using hownr, hb⟩
          case round =>
            obtain ⟨r, hrr, rfl, howni, hbi⟩ := hrel
            clear hownr hb
            by_cases hrl : r < rows
            · have hml := mul_bd r c (by omega) hcle
              obtain ⟨hm1, hm2⟩ := hml
              have hpl := We.part_len n c rows k r (by omega) hr2 (by omega)
              have hB := hbi.size
              have g1 : (We.ordTo n c rows k ++ We.col n c k r).length + 1 ≤ 9223372036854775807 := by omega
              have g2 : ((We.ordTo n c rows k ++ We.col n c k r).length + 1) * 8 ≤ 140737488355328 := by omega
              clear hpl
              have HS := hide (We.col_succ n c k r)
              have HE := hide (cast_at r c k)
              by_cases hp : r * c + k < n
              · have hp' : (r : Int) * (c : Int) + (k : Int) < (n : Int) := by rw [cast_at]; omega
                go_wp2_with (at_builtin; refine wpList_app1 _ rfl (.tmp 33) (.tmp 39) 40 rfl w.heap.size 3 i0 (.int .i64 0) 8 Try.underlying40 hi hz0 hz1 hz2 rfl _ _ _ rfl howni _ rfl (by rfl) g1 g2 hB ?_; intro v' w2 hown1 hg1 hat1)
                go_roundw
                case rel =>
                  have e1 : We.ordTo n c rows k ++ We.col n c k (r + 1) = (We.ordTo n c rows k ++ We.col n c k r) ++ [r * c + k] := by rw [HS.out, if_pos hp, List.append_assoc]
                  refine ⟨r + 1, by omega, by go_num, ?_, below_app hbi howni hg1 hB⟩
                  rw [e1, n64s_app, List.length_append]
                  rw [HE.out] at hown1
                  exact hown1
                case measure => simp [intOf]; omega
              · have hp' : ¬ (r : Int) * (c : Int) + (k : Int) < (n : Int) := by rw [cast_at]; omega
                go_wp2
                go_roundw
                case rel =>
                  have e1 : We.ordTo n c rows k ++ We.col n c k (r + 1) = We.ordTo n c rows k ++ We.col n c k r := by rw [HS.out, if_neg hp, List.append_nil]
                  exact ⟨r + 1, by omega, by go_num, by rw [e1]; exact howni, hbi⟩
                case measure => simp [intOf]; omega
            · obtain rfl : r = rows := by omega
              go_wp2
              go_roundw
              case rel => exact ⟨k + 1, by omega, by go_num, by rw [We.ordTo_succ]; exact howni, hbi⟩
              case measure => simp [intOf]; omega
        · obtain rfl : k = c := by omega
          go_wp2
          go_ret
          exact ⟨_, rfl, by rw [HORD.out]; exact hownr, hb⟩
end Go.Proofs.Ytcbbnddhihmafaa
