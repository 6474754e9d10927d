/- The functions of layer 9 (scram and its reference), each by what it computes: octet, Stream. No conditions. -/
import Derived.Test.YtcbbnddhihmafaaScrB
import Derived.Test.YtcbbnddhihmafaaSame
namespace Go.Proofs.Ytcbbnddhihmafaa
open Go.RowKit
set_option linter.unusedVariables false

theorem Try.infoU8 : (Try.prog.info? 5).map (fun i => (i.zero, i.size, i.bytes)) = some (some (.int .u8 0), 1, 1) := by kernel_rfl

theorem or_u8 (c b : Nat) (hc : c < 128) (hb : b < 2) : bits .or .u8 ((c : Int) * 2 % 256) ((b : Int) % 256) = ((2 * c + b : Nat) : Int) := by
  have e : (c : Int) * 2 % 256 = ((2 * c : Nat) : Int) := by omega
  have e' : (b : Int) % 256 = (b : Int) := by omega
  rw [e, e', u8_or_nat _ _ (by omega) (by omega)]
  have := Nat.two_pow_add_eq_or_of_lt (i := 1) (b := b) (by omega) c
  rw [Nat.pow_one] at this
  rw [← this]
theorem Sc.gat_small (k x : Nat) (hk : k < 8) : Sc.gat k 0 x < 128 := by
  have h := Sc.gat_lt k x
  have : 2 ^ k ≤ 2 ^ 7 := Nat.pow_le_pow_right (by omega) (by omega)
  omega

/-- scram.octet -/
theorem octet_at (x : Nat) (hx : x < 32768) (w : World) : Calls Try.prog 59 #[.int .i64 (x : Int)] w fun e w' =>
    e = .returned (.tuple #[.int .u8 ((Sc.oct x : Nat) : Int), .int .i64 ((Sc.go 8 x : Nat) : Int)]) ∧ w = w' := by
  have HL := hide hx
  clear hx
  go_enter Try.func59, Try.ntmps59
  go_wp2
  go_loop [0, 4, 7] (fun s c i => ∃ k : Nat, k ≤ 8 ∧ i = .int .i64 k ∧ s = .int .i64 ((Sc.go k x : Nat) : Int) ∧ c = .int .u8 ((Sc.gat k 0 x : Nat) : Int)) (fun _ _ i => 8 - (intOf i).toNat)
  case atStart => exact ⟨0, by omega, rfl, rfl, rfl⟩
  case round =>
    obtain ⟨k, hk, rfl, rfl, rfl⟩ := hrel
    have HG := hide (Sc.go_lt k x HL.out)
    by_cases hlt : k < 8
    · have h1 := Sc.gat_small k x hlt
      have h2 := Sc.stepB_lt (Sc.go k x)
      have HO := hide (or_u8 _ _ h1 h2)
      clear h1 h2
      go_wp2_with (go_at_call 16; refine (step_at _ HG.out _).mono ?_; rintro e w' ⟨rfl, rfl⟩)
      go_round
      case rel => exact ⟨k + 1, by omega, by go_num, rfl, by rw [HO.out]; rfl⟩
      case measure => simp [intOf]; omega
    · have HK := hide (show k = 8 by omega)
      have h8 : (8 : Int) ≤ (k : Int) := by omega
      clear hk hlt
      go_wp2
      go_ret2
      exact ⟨by rw [HK.out]; rfl, rfl⟩

theorem stream_bad (s n : Int) (hn : n < 0 ∨ 4096 < n) (w : World) : Calls Try.prog 22 #[.int .i64 s, .int .i64 n] w fun e w' => e = .returned (.slice none 0 0) ∧ w = w' := by
  rcases (show n < 0 ∨ (0 ≤ n ∧ 4096 < n) by omega) with h | ⟨h1, h2⟩
  all_goals
    go_enter Try.func22, Try.ntmps22
    go_wp2
    go_ret
    exact ⟨rfl, rfl⟩

/-- what stands in the row of bytes behind k of n rounds. -/
def Sc.part (s n k : Nat) : List Nat := Sc.stream s k ++ List.replicate (n - k) 0
theorem Sc.part_next (s n k : Nat) (h : k < n) : (Sc.part s n k).set k (Sc.oct (Sc.go (8 * k) s)) = Sc.part s n (k + 1) := by
  unfold Sc.part
  rw [show n - k = (n - (k + 1)) + 1 by omega, List.replicate_succ, Sc.stream_succ]
  have := set_next (Sc.stream s k) (List.replicate (n - (k + 1)) 0) 0 (Sc.oct (Sc.go (8 * k) s))
  rwa [Sc.stream_length] at this
theorem Sc.part_at (s n k : Nat) (h : k < n) : (Sc.part s n k)[k]? = some 0 := by
  unfold Sc.part
  rw [List.getElem?_append_right (by rw [Sc.stream_length]; omega), Sc.stream_length, Nat.sub_self, List.getElem?_replicate, if_pos (by omega)]
theorem Sc.part_all (s n : Nat) : Sc.part s n n = Sc.stream s n := by simp [Sc.part]
theorem Sc.go8 (k s : Nat) : Sc.go 8 (Sc.go (8 * k) s) = Sc.go (8 * (k + 1)) s := by rw [← Sc.go_add]; congr 1; omega

/-- scram.Stream -/
theorem stream_any (s : Int) (n : Nat) (hn : n ≤ 4096) (w : World) : Calls Try.prog 22 #[.int .i64 s, .int .i64 (n : Int)] w fun e w' =>
    ∃ g, e = .returned (.slice (some ⟨g, 0, none⟩) n n) ∧ w'.ownsRow w.heap.size 5 1 (.slice (some ⟨g, 0, none⟩) n n) n (u8s (Sc.stream (Sc.own s) n)) ∧ Below w.heap.size w w' := by
  obtain ⟨i0, hi, hz0, hz1, hz2⟩ := info_parts Try.infoU8
  have HL := hide (Sc.own_lt s)
  have hn1 : (n : Int) ≤ 4096 := by omega
  have hb1 : i0.bytes * n ≤ 281474976710656 := by rw [hz2]; omega
  have hb2 : n ≤ maxLen := by unfold maxLen; omega
  go_enter Try.func22, Try.ntmps22
  go_wp2_with (first
    | (go_at_call 58; refine (own_any _ _).mono ?_; rintro e w' ⟨rfl, rfl⟩)
    | (at_make; refine wpList_make_full _ rfl _ _ _ rfl w.heap.size 5 i0 (.int .u8 0) 1 Try.underlying28 hi hz0 hz1 .i64 .i64 _ _ n rfl rfl rfl rfl hb1 hb2 (Nat.le_refl _) ?_; intro w1 hown hgrow))
  have hown0 : w1.ownsRow w.heap.size 5 1 (.slice (some ⟨w.heap.size, 0, none⟩) n n) n (u8s (Sc.part (Sc.own s) n 0)) := by
    rw [made_u8] at hown
    exact hown
  have hbel : Below w.heap.size w w1 := (Below.refl _ _).grown hgrow (Nat.le_refl _) (by intro k h; cases h)
  clear hown hgrow hb1
  go_loopw [5, 19] (fun x i wr => ∃ k : Nat, k ≤ n ∧ i = .int .i64 k ∧ x = .int .i64 ((Sc.go (8 * k) (Sc.own s) : Nat) : Int) ∧
    wr.ownsRow w.heap.size 5 1 (.slice (some ⟨w.heap.size, 0, none⟩) n n) n (u8s (Sc.part (Sc.own s) n k)) ∧ Below w.heap.size w wr) (fun _ i _ => n - (intOf i).toNat)
  case atStart => exact ⟨0, Nat.zero_le _, rfl, rfl, hown0, hbel⟩
  case round =>
    obtain ⟨k, hk, rfl, rfl, hown, hb⟩ := hrel
    clear hown0 hbel
    have HG := hide (Sc.go_lt (8 * k) (Sc.own s) HL.out)
    by_cases hlt : k < n
    · have hc := own_cell hown (u8s_get (Sc.part_at (Sc.own s) n k hlt))
      have hf := hown.frozenAt k
      have HO := hide hown
      clear hown
      go_wp2_with (go_at_call 59; refine (octet_at _ HG.out _).mono ?_; rintro e w' ⟨rfl, rfl⟩)
      go_roundw
      case rel =>
        refine ⟨k + 1, by omega, by go_num, by rw [Sc.go8], ?_, hb.setCell (Nat.le_refl _) _⟩
        have := own_store HO.out k (.int .u8 ((Sc.oct (Sc.go (8 * k) (Sc.own s)) : Nat) : Int))
        rwa [u8s_set, Sc.part_next _ _ _ hlt] at this
      case measure => simp [intOf]; omega
    · obtain rfl : k = n := by omega
      go_wp2
      go_ret
      rw [Sc.part_all] at hown
      exact ⟨w.heap.size, rfl, hown, hb⟩
end Go.Proofs.Ytcbbnddhihmafaa
