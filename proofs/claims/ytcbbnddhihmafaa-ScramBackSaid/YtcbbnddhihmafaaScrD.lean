/- The functions of layer 9's reference, and Do of both: each by what it computes. No conditions. -/
import Derived.Test.YtcbbnddhihmafaaScrC
import Derived.Deep.RegionHeld3
namespace Go.Proofs.Ytcbbnddhihmafaa
open Go.RowKit
set_option linter.unusedVariables false

theorem rstream_bad (s n : Int) (hn : n < 0 ∨ 4096 < n) (w : World) : Calls Try.prog 23 #[.int .i64 s, .int .i64 n] w fun e w' => e = .returned (.slice none 0 0) ∧ w = w' := by
  rcases (show n < 0 ∨ (0 ≤ n ∧ 4096 < n) by omega) with h | ⟨h1, h2⟩
  all_goals
    go_enter Try.func23, Try.ntmps23
    go_wp2
    go_ret
    exact ⟨rfl, rfl⟩

/-- A state in the reference's form: any number of which Own is x. -/
theorem rstep_own (s : Int) (w : World) : Calls Try.prog 17 #[.int .i64 s] w fun e w' =>
    e = .returned (.tuple #[.int .i64 ((Sc.stepB (Sc.own s) : Nat) : Int), .int .i64 ((Sc.stepN (Sc.own s) : Nat) : Int)]) ∧ w = w' := rstep_any s w
/-- the number that stands for a state behind so many steps: at first any number, then one below 32768. -/
def Sc.at_ (s : Int) : Nat → Int
  | 0 => s
  | k + 1 => ((Sc.go (k + 1) (Sc.own s) : Nat) : Int)
theorem Sc.own_at (s : Int) (k : Nat) : Sc.own (Sc.at_ s k) = Sc.go k (Sc.own s) := by
  cases k with
  | zero => rfl
  | succ k => exact own_nat _ (Sc.go_lt _ _ (Sc.own_lt s))
theorem Sc.at_go (s : Int) (m k : Nat) : Sc.at_ (Sc.at_ s m) k = Sc.at_ s (m + k) := by
  cases k with
  | zero => rfl
  | succ k =>
    show ((Sc.go (k + 1) (Sc.own (Sc.at_ s m)) : Nat) : Int) = ((Sc.go (m + k + 1) (Sc.own s) : Nat) : Int)
    rw [Sc.own_at, ← Sc.go_add]
    congr 2; omega
theorem rstep_run (s : Int) (k : Nat) (w : World) : Calls Try.prog 17 #[.int .i64 (Sc.at_ s k)] w fun e w' =>
    e = .returned (.tuple #[.int .i64 ((Sc.stepB (Sc.go k (Sc.own s)) : Nat) : Int), .int .i64 (Sc.at_ s (k + 1))]) ∧ w = w' := by
  have := rstep_any (Sc.at_ s k) w
  rw [Sc.own_at] at this
  exact this
theorem gat_step (k x : Nat) (h : k < 8) : wrap64 (wrap64 (2 * ((Sc.gat k 0 x : Nat) : Int)) + ((Sc.stepB (Sc.go k x) : Nat) : Int)) = ((Sc.gat (k + 1) 0 x : Nat) : Int) := by
  have h1 := Sc.gat_small k x h
  have h2 := Sc.stepB_lt (Sc.go k x)
  rw [IntWalk.wrap64_in (2 * _) ⟨by omega, by omega⟩, IntWalk.wrap64_in _ ⟨by omega, by omega⟩]
  simp only [Sc.gat]; omega
theorem u8_oct (x : Nat) : ((Sc.gat 8 0 x : Nat) : Int) % 256 = ((Sc.oct x : Nat) : Int) := by have := Sc.oct_lt x; unfold Sc.oct at *; omega

set_option maxHeartbeats 400000 in
/-- the reference's Stream -/
theorem rstream_any (s : Int) (n : Nat) (hn : n ≤ 4096) (w : World) : Calls Try.prog 23 #[.int .i64 s, .int .i64 (n : Int)] w fun e w' =>
    ∃ v, e = .returned v ∧ w'.ownsRow w.heap.size 5 1 v n (u8s (Sc.stream (Sc.own s) n)) ∧ Below w.heap.size w w' := by
  obtain ⟨i0, hi, hz0, hz1, hz2⟩ := info_parts Try.infoU8
  have hn1 : (n : Int) ≤ 4096 := by omega
  have hd1 : decide ((n : Int) < 0) = false := by simp
  have hd2 : decide ((4096 : Int) < (n : Int)) = false := by simp; omega
  go_enter Try.func23, Try.ntmps23
  go_wp2
  go_loopw [0, 5, 6] (fun x v i wr => ∃ k : Nat, k ≤ n ∧ i = .int .i64 k ∧ x = .int .i64 (Sc.at_ s (8 * k)) ∧
    wr.ownsRow w.heap.size 5 1 v k (u8s (Sc.stream (Sc.own s) k)) ∧ Below w.heap.size w wr) (fun _ _ i _ => n - (intOf i).toNat)
  case atStart => exact ⟨0, Nat.zero_le _, rfl, rfl, World.ownsRow_nil _ _ _ _, Below.refl _ _⟩
  case round =>
    obtain ⟨k, hk, rfl, rfl, hown, hb⟩ := hrel
    by_cases hlt : k < n
    · obtain ⟨x, hx⟩ : ∃ x, x = Sc.at_ s (8 * k) := ⟨_, rfl⟩
      have HX := hide hx
      rw [← hx]
      clear hx
      go_wp2
      go_loop [0, 7, 8] (fun y c j => ∃ m : Nat, m ≤ 8 ∧ j = .int .i64 m ∧ y = .int .i64 (Sc.at_ x m) ∧ c = .int .i64 ((Sc.gat m 0 (Sc.own x) : Nat) : Int)) (fun _ _ j => 8 - (intOf j).toNat)
      case atStart => exact ⟨0, by omega, rfl, rfl, rfl⟩
      case round =>
        obtain ⟨m, hm, rfl, rfl, rfl⟩ := hrel
        by_cases hml : m < 8
        · have HG := hide (gat_step m (Sc.own x) hml)
          go_wp2_with (go_at_call 17; refine (rstep_run x m _).mono ?_; rintro e w' ⟨rfl, rfl⟩)
          go_round
          case rel => exact ⟨m + 1, by omega, by go_num, rfl, by rw [HG.out]⟩
          case measure => simp [intOf]; omega
        · have HM := hide (show m = 8 by omega)
          have h8 : (8 : Int) ≤ (m : Int) := by omega
          clear hm hml
          have hB := hb.size
          go_wp2_with (at_builtin; refine wpList_app1 _ rfl (.tmp 34) (.tmp 37) 28 rfl w.heap.size 5 i0 (.int .u8 0) 1 Try.underlying28 hi hz0 hz1 hz2 rfl _ k _ rfl hown _ rfl (by rfl) (by omega) (by omega) hB ?_; intro v' w1 hown1 hg1 hat1)
          go_roundw
          case rel =>
            have hx8 : Sc.at_ x m = Sc.at_ s (8 * (k + 1)) := by rw [HM.out, HX.out, Sc.at_go]; rfl
            have hoc : ((Sc.gat m 0 (Sc.own x) : Nat) : Int) % 256 = ((Sc.oct (Sc.go (8 * k) (Sc.own s)) : Nat) : Int) := by rw [HM.out, u8_oct, HX.out, Sc.own_at]
            refine ⟨k + 1, by omega, by go_num, by rw [hx8], ?_, below_app hb hown hg1 hB⟩
            rw [Sc.stream_succ, u8s_app]
            rw [hoc] at hown1
            exact hown1
          case measure => simp [intOf]; omega
    · obtain rfl : k = n := by omega
      go_wp2
      go_ret
      exact ⟨_, rfl, hown, hb⟩
end Go.Proofs.Ytcbbnddhihmafaa
