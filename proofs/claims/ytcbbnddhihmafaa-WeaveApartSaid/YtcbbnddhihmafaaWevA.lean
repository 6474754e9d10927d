/- The functions of layer 11 (weave and its reference), each by what it computes: right, columns, order. No conditions. -/
import Derived.Test.YtcbbnddhihmafaaB2
import Derived.Test.YtcbbnddhihmafaaP11
namespace Go.Proofs.Ytcbbnddhihmafaa
open Go.RowKit
set_option linter.unusedVariables false

theorem right_yes (n rows : Int) (h1 : 0 ≤ n) (h2 : n ≤ 65536) (h3 : 1 ≤ rows) (h4 : rows ≤ 64) (w : World) : Calls Try.prog 60 #[.int .i64 n, .int .i64 rows] w fun e w' => e = .returned (.bool true) ∧ w = w' := by
  go_enter Try.func60, Try.ntmps60
  go_wp2
  go_ret
  exact ⟨rfl, rfl⟩
theorem right_no (n rows : Int) (h : ¬ (0 ≤ n ∧ n ≤ 65536 ∧ 1 ≤ rows ∧ rows ≤ 64)) (w : World) : Calls Try.prog 60 #[.int .i64 n, .int .i64 rows] w fun e w' => e = .returned (.bool false) ∧ w = w' := by
  rcases (show n < 0 ∨ (0 ≤ n ∧ 65536 < n) ∨ (0 ≤ n ∧ n ≤ 65536 ∧ rows < 1) ∨ (0 ≤ n ∧ n ≤ 65536 ∧ 1 ≤ rows ∧ 64 < rows) by omega) with h1 | ⟨h1, h2⟩ | ⟨h1, h2, h3⟩ | ⟨h1, h2, h3, h4⟩
  all_goals
    clear h
    go_enter Try.func60, Try.ntmps60
    go_wp2
    go_ret
    first
    | exact ⟨rfl, rfl⟩
    | exact ⟨ret_b (a := decide (rows ≤ 64)) (by simp; omega), rfl⟩
theorem rright_yes (n rows : Int) (h1 : 0 ≤ n) (h2 : n ≤ 65536) (h3 : 1 ≤ rows) (h4 : rows ≤ 64) (w : World) : Calls Try.prog 62 #[.int .i64 n, .int .i64 rows] w fun e w' => e = .returned (.bool true) ∧ w = w' := by
  go_enter Try.func62, Try.ntmps62
  go_wp2
  go_ret
  exact ⟨rfl, rfl⟩
theorem rright_no (n rows : Int) (h : ¬ (0 ≤ n ∧ n ≤ 65536 ∧ 1 ≤ rows ∧ rows ≤ 64)) (w : World) : Calls Try.prog 62 #[.int .i64 n, .int .i64 rows] w fun e w' => e = .returned (.bool false) ∧ w = w' := by
  rcases (show n < 0 ∨ (0 ≤ n ∧ 65536 < n) ∨ (0 ≤ n ∧ n ≤ 65536 ∧ rows < 1) ∨ (0 ≤ n ∧ n ≤ 65536 ∧ 1 ≤ rows ∧ 64 < rows) by omega) with h1 | ⟨h1, h2⟩ | ⟨h1, h2, h3⟩ | ⟨h1, h2, h3, h4⟩
  all_goals
    clear h
    go_enter Try.func62, Try.ntmps62
    go_wp2
    go_ret
    first
    | exact ⟨rfl, rfl⟩
    | exact ⟨ret_b (a := decide (rows ≤ 64)) (by simp; omega), rfl⟩

theorem cols_int (n rows : Nat) (h : 0 < rows) : ((n : Int) + (rows : Int) - 1) / (rows : Int) = ((We.cols n rows : Nat) : Int) := by
  unfold We.cols
  rw [Int.natCast_ediv]
  congr 1; omega
theorem columns_any (n rows : Nat) (hn : n ≤ 65536) (hr : 0 < rows) (hr2 : rows ≤ 64) (w : World) : Calls Try.prog 73 #[.int .i64 (n : Int), .int .i64 (rows : Int)] w fun e w' => e = .returned (.int .i64 ((We.cols n rows : Nat) : Int)) ∧ w = w' := by
  have HC := hide (cols_int n rows hr)
  have h1 : (n : Int) ≤ 65536 := by omega
  have h2 : (1 : Int) ≤ (rows : Int) := by omega
  have h3 : (rows : Int) ≤ 64 := by omega
  clear hn hr hr2
  go_enter Try.func73, Try.ntmps73
  go_wp2
  go_ret
  exact ⟨by rw [← HC.out]; rfl, rfl⟩

theorem We.cols_le (n rows : Nat) (h : 0 < rows) : We.cols n rows ≤ n := by
  refine We.cols_least n rows n h ?_
  have := Nat.mul_le_mul_left n (show 1 ≤ rows from h)
  omega
theorem We.ordTo_len (n cs rows k : Nat) : (We.ordTo n cs rows k).length ≤ k * rows := by
  induction k with
  | zero => simp [We.ordTo]
  | succ k ih =>
    rw [We.ordTo_succ, List.length_append, Nat.succ_mul]
    have : (We.col n cs k rows).length ≤ rows := by
      unfold We.col
      exact Nat.le_trans (List.length_filterMap_le _ _) (by simp)
    omega
theorem We.col_len (n cs k r : Nat) : (We.col n cs k r).length ≤ r := by
  unfold We.col
  exact Nat.le_trans (List.length_filterMap_le _ _) (by simp)
theorem We.part_len (n cs rows k r : Nat) (hk : k ≤ 65536) (hr : rows ≤ 64) (hr2 : r ≤ 64) : (We.ordTo n cs rows k ++ We.col n cs k r).length ≤ 4194368 := by
  rw [List.length_append]
  have h1 := We.ordTo_len n cs rows k
  have h2 := We.col_len n cs k r
  have h3 : k * rows ≤ 65536 * 64 := Nat.mul_le_mul hk hr
  omega
theorem mul_bd (r cs : Nat) (h1 : r ≤ 64) (h2 : cs ≤ 65536) : 0 ≤ (r : Int) * (cs : Int) ∧ (r : Int) * (cs : Int) ≤ 4194304 := by
  have h3 : r * cs ≤ 64 * 65536 := Nat.mul_le_mul h1 h2
  have e : (r : Int) * (cs : Int) = ((r * cs : Nat) : Int) := by rw [Int.natCast_mul]
  rw [e]; omega
theorem cast_at (r cs c : Nat) : (r : Int) * (cs : Int) + (c : Int) = ((r * cs + c : Nat) : Int) := by rw [Int.natCast_add, Int.natCast_mul]

set_option maxHeartbeats 400000 in
/-- weave.order -/
theorem order_any (n rows : Nat) (hn : n ≤ 65536) (hr : 0 < rows) (hr2 : rows ≤ 64) (w : World) : Calls Try.prog 61 #[.int .i64 (n : Int), .int .i64 (rows : Int)] w fun e w' =>
    ∃ v, e = .returned v ∧ w'.ownsRow w.heap.size 3 1 v (We.ord n rows).length (n64s (We.ord n rows)) ∧ Below w.heap.size w w' := by
  obtain ⟨i0, hi, hz0, hz1, hz2⟩ := info_parts Try.infI
  obtain ⟨cs, hcs⟩ : ∃ cs, cs = We.cols n rows := ⟨_, rfl⟩
  have hcle : cs ≤ 65536 := by rw [hcs]; exact Nat.le_trans (We.cols_le n rows hr) hn
  have HCS := hide hcs
  have HORD : Hid (We.ord n rows = We.ordTo n cs rows cs) := by show _ = _; rw [hcs]; rfl
  have hcol := columns_any n rows hn hr hr2 w
  rw [← hcs] at hcol
  have HCOL := hide hcol
  clear hcs hcol
  have h1 : (n : Int) ≤ 65536 := by omega
  have h3 : (rows : Int) ≤ 64 := by omega
  have h4 : (cs : Int) ≤ 65536 := by omega
  have hb1 : i0.bytes * n ≤ 281474976710656 := by rw [hz2]; omega
  have hb2 : n ≤ maxLen := by unfold maxLen; omega
  go_enter Try.func61, Try.ntmps61
  go_wp2_with fail
  refine HCOL.out.mono ?_; rintro e w' ⟨rfl, rfl⟩
  go_wp2_with (at_make; refine wpList_make_own _ rfl _ _ _ rfl w.heap.size 3 i0 (.int .i64 0) 1 Try.underlying40 hi hz0 hz1 .i64 .i64 _ n rfl rfl rfl hb1 hb2 (Nat.le_refl _) ?_; intro w1 hown hgrow)
  have hbel : Below w.heap.size w w1 := (Below.refl _ _).grown hgrow (Nat.le_refl _) (by intro k h; cases h)
  clear hgrow hb1
  go_loopw [6, 16] (fun v i wr => ∃ k : Nat, k ≤ cs ∧ i = .int .i64 k ∧ wr.ownsRow w.heap.size 3 1 v (We.ordTo n cs rows k).length (n64s (We.ordTo n cs rows k)) ∧ Below w.heap.size w wr) (fun _ i _ => cs - (intOf i).toNat)
  case atStart => exact ⟨0, Nat.zero_le _, rfl, hown, hbel⟩
  case round =>
    obtain ⟨k, hk, rfl, hownr, hb⟩ := hrel
    clear hown hbel
    by_cases hlt : k < cs
    · obtain ⟨wo, rfl⟩ : ∃ wo : World, wo = wr := ⟨_, rfl⟩
      go_wp2
      go_loopw [6, 20] (fun v i wi => ∃ r : Nat, r ≤ rows ∧ i = .int .i64 r ∧ wi.ownsRow w.heap.size 3 1 v (We.ordTo n cs rows k ++ We.col n cs k r).length (n64s (We.ordTo n cs rows k ++ We.col n cs k r)) ∧ Below w.heap.size w wi) (fun _ i _ => rows - (intOf i).toNat)
      case atStart => exact ⟨0, Nat.zero_le _, rfl, by simpa [We.col] using hownr, hb⟩
      case round =>
        obtain ⟨r, hrr, rfl, howni, hbi⟩ := hrel
        clear hownr hb
        by_cases hrl : r < rows
        · have hml := mul_bd r cs (by omega) hcle
          obtain ⟨hm1, hm2⟩ := hml
          have hpl := We.part_len n cs rows k r (by omega) hr2 (by omega)
          have hB := hbi.size
          have HP := hide hpl
          have g1 : (We.ordTo n cs rows k ++ We.col n cs k r).length + 1 ≤ 9223372036854775807 := by omega
          have g2 : ((We.ordTo n cs rows k ++ We.col n cs k r).length + 1) * 8 ≤ 140737488355328 := by omega
          clear hpl
          have HS := hide (We.col_succ n cs k r)
          have HE := hide (cast_at r cs k)
          by_cases hp : r * cs + k < n
          · have hp' : (r : Int) * (cs : Int) + (k : Int) < (n : Int) := by rw [cast_at]; omega
            go_wp2_with (at_builtin; refine wpList_app1 _ rfl (.tmp 31) (.tmp 33) 40 rfl w.heap.size 3 i0 (.int .i64 0) 8 Try.underlying40 hi hz0 hz1 hz2 rfl _ _ _ rfl howni _ rfl (by rfl) g1 g2 hB ?_; intro v' w2 hown1 hg1 hat1)
            go_roundw
            case rel =>
              have e1 : We.ordTo n cs rows k ++ We.col n cs k (r + 1) = (We.ordTo n cs rows k ++ We.col n cs k r) ++ [r * cs + k] := by rw [HS.out, if_pos hp, List.append_assoc]
              refine ⟨r + 1, by omega, by go_num, ?_, below_app hbi howni hg1 hB⟩
              rw [e1, n64s_app, List.length_append]
              rw [HE.out] at hown1
              exact hown1
            case measure => simp [intOf]; omega
          · have hp' : ¬ (r : Int) * (cs : Int) + (k : Int) < (n : Int) := by rw [cast_at]; omega
            go_wp2
            go_roundw
            case rel =>
              have e1 : We.ordTo n cs rows k ++ We.col n cs k (r + 1) = We.ordTo n cs rows k ++ We.col n cs k r := by rw [HS.out, if_neg hp, List.append_nil]
              exact ⟨r + 1, by omega, by go_num, by rw [e1]; exact howni, hbi⟩
            case measure => simp [intOf]; omega
        · obtain rfl : r = rows := by omega
          go_wp2
          go_roundw
          case rel => exact ⟨k + 1, by omega, by go_num, by rw [We.ordTo_succ]; exact howni, hbi⟩
          case measure => simp [intOf]; omega
    · obtain rfl : k = cs := by omega
      go_wp2
      go_ret
      exact ⟨_, rfl, by rw [HORD.out]; exact hownr, hb⟩
end Go.Proofs.Ytcbbnddhihmafaa
