/- Layer 10 (hamming) and its reference: the functions on one byte, each by what it computes. No conditions. -/
import Derived.Test.YtnoefbmdpbljhaaSep
import Derived.Test.YtnoefbmdpbljhaaP10
namespace Go.Proofs.Ytnoefbmdpbljhaa
open Go.RowKit
set_option linter.unusedVariables false

theorem pop_any (x : Int) (w : World) (h0 : 0 ≤ x) (h1 : x ≤ 255) : Calls Try.prog 42 #[.int .u8 x] w fun e w' => e = .returned (.int .i64 (Lib.onesCount x.toNat)) ∧ w = w' := by
  have e := hide (Lib.pop8_int x h0 h1)
  go_enter Try.func42, Try.ntmps42
  go_wp2
  go_ret
  have e := e.out
  generalize Lib.pop8 x = p at e ⊢
  have e2 : wrap64 p = (Lib.onesCount x.toNat : Int) := by unfold wrap64; omega
  exact ⟨congrArg (fun z => Ending.returned (.int .i64 z)) e2, rfl⟩
theorem quietC {P : Program} {f : FuncId} {args : Array Value} {w : World} {n : Nat} {v : Value} (h : Calls P f args (w.drewN n) fun e w' => e = .returned v ∧ w.drewN n = w') :
    Calls P f args (w.drewN n) fun e w'' => e = .returned v ∧ ∃ m, w'' = w.drewN m := h.mono fun _ _ ⟨he, hw⟩ => ⟨he, n, hw.symm⟩
theorem and1 (a : Nat) (h : a < 9223372036854775808) : bits .and .i64 (a : Int) 1 = ((a % 2 : Nat) : Int) := by
  have := and64 a 1 h (by omega)
  rw [Nat.and_one_is_mod] at this
  exact this
theorem and1u (a : Nat) (h : a < 256) : bits .and .u8 (a : Int) 1 = ((a % 2 : Nat) : Int) := by
  have := u8_and_nat a 1 h (by omega)
  rw [Nat.and_one_is_mod] at this
  exact this
theorem odd_any (X : Int) (x : Nat) (hX : X = (x : Int)) (h : x < 256) (w : World) : Calls Try.prog 39 #[.int .u8 X] w fun e w' => e = .returned (.int .u8 (Hm.odd x : Nat)) ∧ w = w' := by
  subst hX
  have HP := hide (pop_any (x : Int) w (by omega) (by omega))
  have hp : Lib.onesCount x ≤ 8 := Lib.onesCount_le8 ⟨x, h⟩
  have HO : Hid (bits .and .i64 (Lib.onesCount x) 1 % 256 = ((Hm.odd x : Nat) : Int)) := by
    show _ = _
    rw [and1 _ (by omega)]
    unfold Hm.odd; omega
  clear hp
  go_enter Try.func39, Try.ntmps39
  go_wp2_with fail
  refine HP.out.mono ?_; rintro e w' ⟨rfl, rfl⟩
  go_wp2
  go_ret
  refine ⟨?_, rfl⟩
  rw [← HO.out]; rfl
theorem told_any (k : Nat) (hk : k < 3) (K : Int) (hK : K = (k : Int)) (w : World) : Calls Try.prog 40 #[.int .i64 K] w fun e w' => e = .returned (.int .u8 (Hm.told k : Nat)) ∧ w = w' := by
  subst hK
  have i0 : ∀ w, (Instr.index 83 (.agg #[.int .u8 170, .int .u8 204, .int .u8 240]) (.int .i64 0)).run Try.prog w = .ok (.int .u8 170) w := fun _ => by kernel_rfl
  have i1 : ∀ w, (Instr.index 83 (.agg #[.int .u8 170, .int .u8 204, .int .u8 240]) (.int .i64 1)).run Try.prog w = .ok (.int .u8 204) w := fun _ => by kernel_rfl
  have i2 : ∀ w, (Instr.index 83 (.agg #[.int .u8 170, .int .u8 204, .int .u8 240]) (.int .i64 2)).run Try.prog w = .ok (.int .u8 240) w := fun _ => by kernel_rfl
  rcases (by omega : k = 0 ∨ k = 1 ∨ k = 2) with rfl | rfl | rfl
  all_goals
    go_enter Try.func40, Try.ntmps40
    go_wp2
    go_ret
    exact ⟨rfl, rfl⟩
theorem or_step (y v m : Nat) (V M : Int) (hV : V = (v : Int)) (hM : M = (m : Int)) (hv : v < 9223372036854775808) (hy : y < 256) (hm : v % 2 * m < 256) :
    bits .or .u8 (y : Int) (bits .and .i64 V 1 % 256 * M % 256) = ((y ||| v % 2 * m : Nat) : Int) := by
  subst hV hM
  rw [and1 v hv, ← u8_or_nat _ _ hy hm]
  congr 1
  rw [Int.natCast_mul]
  have : ((v % 2 : Nat) : Int) % 256 = ((v % 2 : Nat) : Int) := by omega
  rw [this, ← Int.natCast_mul]
  omega
set_option maxHeartbeats 400000 in
theorem spread_any (x : Nat) (hx : x < 16) (w : World) : Calls Try.prog 37 #[.int .i64 (x : Int)] w fun e w' => e = .returned (.int .u8 (Hm.sp x 4 : Nat)) ∧ w = w' := by
  have s1 := hide (or_step (Hm.sp x 0) x 8 (x : Int) 8 rfl rfl (by omega) (Hm.sp_lt ⟨x, hx⟩ 0) (by omega))
  have s2 := hide (or_step (Hm.sp x 1) (x / 2) 32 ((x : Int) / 2) 32 (by omega) rfl (by omega) (Hm.sp_lt ⟨x, hx⟩ 1) (by omega))
  have s3 := hide (or_step (Hm.sp x 2) (x / 4) 64 ((x : Int) / 4) 64 (by omega) rfl (by omega) (Hm.sp_lt ⟨x, hx⟩ 2) (by omega))
  have s4 := hide (or_step (Hm.sp x 3) (x / 8) 128 ((x : Int) / 8) 128 (by omega) rfl (by omega) (Hm.sp_lt ⟨x, hx⟩ 3) (by omega))
  have i0 : ∀ w, (Instr.index 82 (.agg #[.int .i64 3, .int .i64 5, .int .i64 6, .int .i64 7]) (.int .i64 0)).run Try.prog w = .ok (.int .i64 3) w := fun _ => by kernel_rfl
  have i1 : ∀ w, (Instr.index 82 (.agg #[.int .i64 3, .int .i64 5, .int .i64 6, .int .i64 7]) (.int .i64 1)).run Try.prog w = .ok (.int .i64 5) w := fun _ => by kernel_rfl
  have i2 : ∀ w, (Instr.index 82 (.agg #[.int .i64 3, .int .i64 5, .int .i64 6, .int .i64 7]) (.int .i64 2)).run Try.prog w = .ok (.int .i64 6) w := fun _ => by kernel_rfl
  have i3 : ∀ w, (Instr.index 82 (.agg #[.int .i64 3, .int .i64 5, .int .i64 6, .int .i64 7]) (.int .i64 3)).run Try.prog w = .ok (.int .i64 7) w := fun _ => by kernel_rfl
  go_enter Try.func37, Try.ntmps37
  go_wp2
  go_loop [3, 7] (fun v i => ∃ k : Nat, k ≤ 4 ∧ i = .int .i64 k ∧ v = .int .u8 (Hm.sp x k : Nat)) (fun _ i => 4 - (intOf i).toNat)
  case atStart => exact ⟨0, by omega, rfl, rfl⟩
  case round =>
    obtain ⟨k, hk, rfl, rfl⟩ := hrel
    by_cases hlt : k < 4
    · rcases (by omega : k = 0 ∨ k = 1 ∨ k = 2 ∨ k = 3) with rfl | rfl | rfl | rfl
      · have HS : Hid ((Hm.sp x 0 ||| x % 2 * 8 : Nat) = Hm.sp x 1) := by show _ = Hm.sp x 0 ||| x / 2 ^ 0 % 2 * 2 ^ Hm.pl 0; rw [Nat.pow_zero, Nat.div_one]; rfl
        obtain ⟨y, hy⟩ : ∃ y, y = Hm.sp x 0 := ⟨_, rfl⟩
        rw [← hy] at s1 HS ⊢
        clear hy s2 s3 s4
        go_wp2
        exact ⟨⟨1, by omega, rfl, by rw [s1.out]; exact congrArg (fun n : Nat => Value.int .u8 (n : Int)) HS.out⟩, by simp [intOf]⟩
      · have HS : Hid ((Hm.sp x 1 ||| _ : Nat) = Hm.sp x 2) := rfl
        obtain ⟨y, hy⟩ : ∃ y, y = Hm.sp x 1 := ⟨_, rfl⟩
        rw [← hy] at s2 HS ⊢
        clear hy s1 s3 s4
        go_wp2
        exact ⟨⟨2, by omega, rfl, by rw [s2.out]; exact congrArg (fun n : Nat => Value.int .u8 (n : Int)) HS.out⟩, by simp [intOf]⟩
      · have HS : Hid ((Hm.sp x 2 ||| _ : Nat) = Hm.sp x 3) := rfl
        obtain ⟨y, hy⟩ : ∃ y, y = Hm.sp x 2 := ⟨_, rfl⟩
        rw [← hy] at s3 HS ⊢
        clear hy s1 s2 s4
        go_wp2
        exact ⟨⟨3, by omega, rfl, by rw [s3.out]; exact congrArg (fun n : Nat => Value.int .u8 (n : Int)) HS.out⟩, by simp [intOf]⟩
      · have HS : Hid ((Hm.sp x 3 ||| _ : Nat) = Hm.sp x 4) := rfl
        obtain ⟨y, hy⟩ : ∃ y, y = Hm.sp x 3 := ⟨_, rfl⟩
        rw [← hy] at s4 HS ⊢
        clear hy s1 s2 s3
        go_wp2
        exact ⟨⟨4, by omega, rfl, by rw [s4.out]; exact congrArg (fun n : Nat => Value.int .u8 (n : Int)) HS.out⟩, by simp [intOf]⟩
    · obtain rfl : k = 4 := by omega
      go_wp2
      go_ret
      exact ⟨rfl, rfl⟩
theorem or_gat (y v m : Nat) (V M : Int) (hV : V = (v : Int)) (hM : M = (m : Int)) (hv : v < 256) (hy : y < 256) (hm : m < 256) :
    bits .or .i64 (y : Int) (wrap64 (wrap64 (bits .and .u8 V 1) * M)) = ((y ||| v % 2 * m : Nat) : Int) := by
  subst hV hM
  have h2 : v % 2 < 2 := Nat.mod_lt _ (by omega)
  have h3 : v % 2 * m ≤ 1 * m := Nat.mul_le_mul_right m (by omega)
  rw [and1u v hv, ← or64 _ _ (by omega) (by omega)]
  congr 1
  have e1 : wrap64 ((v % 2 : Nat) : Int) = ((v % 2 : Nat) : Int) := by unfold wrap64; omega
  rw [e1, ← Int.natCast_mul]
  unfold wrap64; omega
theorem or_gat0 (y v : Nat) (V : Int) (hV : V = (v : Int)) (hv : v < 256) (hy : y < 256) : bits .or .i64 (y : Int) (wrap64 (wrap64 (bits .and .u8 V 1))) = ((y ||| v % 2 * 1 : Nat) : Int) := by
  have := or_gat y v 1 V 1 hV rfl hv hy (by omega)
  rwa [Int.mul_one] at this
theorem ga256 (x : Nat) (hx : x < 256) (k : Nat) (hk : k < 5) : Hm.ga x k < 256 := Nat.lt_trans (Hm.ga_lt ⟨x, hx⟩ ⟨k, hk⟩) (by omega)
theorem gathered_any (x : Nat) (hx : x < 256) (w : World) : Calls Try.prog 41 #[.int .u8 (x : Int)] w fun e w' => e = .returned (.int .i64 (Hm.ga x 4 : Nat)) ∧ w = w' := by
  have s1 := hide (or_gat0 (Hm.ga x 0) (x / 8) ((x : Int) / 8) (by omega) (by omega) (ga256 x hx 0 (by omega)))
  have s2 := hide (or_gat (Hm.ga x 1) (x / 32) 2 ((x : Int) / 32) 2 (by omega) rfl (by omega) (ga256 x hx 1 (by omega)) (by omega))
  have s3 := hide (or_gat (Hm.ga x 2) (x / 64) 4 ((x : Int) / 64) 4 (by omega) rfl (by omega) (ga256 x hx 2 (by omega)) (by omega))
  have s4 := hide (or_gat (Hm.ga x 3) (x / 128) 8 ((x : Int) / 128) 8 (by omega) rfl (by omega) (ga256 x hx 3 (by omega)) (by omega))
  have i0 : ∀ w, (Instr.index 82 (.agg #[.int .i64 3, .int .i64 5, .int .i64 6, .int .i64 7]) (.int .i64 0)).run Try.prog w = .ok (.int .i64 3) w := fun _ => by kernel_rfl
  have i1 : ∀ w, (Instr.index 82 (.agg #[.int .i64 3, .int .i64 5, .int .i64 6, .int .i64 7]) (.int .i64 1)).run Try.prog w = .ok (.int .i64 5) w := fun _ => by kernel_rfl
  have i2 : ∀ w, (Instr.index 82 (.agg #[.int .i64 3, .int .i64 5, .int .i64 6, .int .i64 7]) (.int .i64 2)).run Try.prog w = .ok (.int .i64 6) w := fun _ => by kernel_rfl
  have i3 : ∀ w, (Instr.index 82 (.agg #[.int .i64 3, .int .i64 5, .int .i64 6, .int .i64 7]) (.int .i64 3)).run Try.prog w = .ok (.int .i64 7) w := fun _ => by kernel_rfl
  go_enter Try.func41, Try.ntmps41
  go_wp2
  go_loop [3, 7] (fun v i => ∃ k : Nat, k ≤ 4 ∧ i = .int .i64 k ∧ v = .int .i64 (Hm.ga x k : Nat)) (fun _ i => 4 - (intOf i).toNat)
  case atStart => exact ⟨0, by omega, rfl, rfl⟩
  case round =>
    obtain ⟨k, hk, rfl, rfl⟩ := hrel
    by_cases hlt : k < 4
    · rcases (by omega : k = 0 ∨ k = 1 ∨ k = 2 ∨ k = 3) with rfl | rfl | rfl | rfl
      · have HS : Hid ((Hm.ga x 0 ||| _ : Nat) = Hm.ga x 1) := rfl
        obtain ⟨y, hy⟩ : ∃ y, y = Hm.ga x 0 := ⟨_, rfl⟩
        rw [← hy] at s1 HS ⊢
        clear hy s2 s3 s4
        go_wp2
        exact ⟨⟨1, by omega, rfl, by rw [s1.out]; exact congrArg (fun n : Nat => Value.int .i64 (n : Int)) HS.out⟩, by simp [intOf]⟩
      · have HS : Hid ((Hm.ga x 1 ||| _ : Nat) = Hm.ga x 2) := rfl
        obtain ⟨y, hy⟩ : ∃ y, y = Hm.ga x 1 := ⟨_, rfl⟩
        rw [← hy] at s2 HS ⊢
        clear hy s1 s3 s4
        go_wp2
        exact ⟨⟨2, by omega, rfl, by rw [s2.out]; exact congrArg (fun n : Nat => Value.int .i64 (n : Int)) HS.out⟩, by simp [intOf]⟩
      · have HS : Hid ((Hm.ga x 2 ||| _ : Nat) = Hm.ga x 3) := rfl
        obtain ⟨y, hy⟩ : ∃ y, y = Hm.ga x 2 := ⟨_, rfl⟩
        rw [← hy] at s3 HS ⊢
        clear hy s1 s2 s4
        go_wp2
        exact ⟨⟨3, by omega, rfl, by rw [s3.out]; exact congrArg (fun n : Nat => Value.int .i64 (n : Int)) HS.out⟩, by simp [intOf]⟩
      · have HS : Hid ((Hm.ga x 3 ||| _ : Nat) = Hm.ga x 4) := rfl
        obtain ⟨y, hy⟩ : ∃ y, y = Hm.ga x 3 := ⟨_, rfl⟩
        rw [← hy] at s4 HS ⊢
        clear hy s1 s2 s3
        go_wp2
        exact ⟨⟨4, by omega, rfl, by rw [s4.out]; exact congrArg (fun n : Nat => Value.int .i64 (n : Int)) HS.out⟩, by simp [intOf]⟩
    · obtain rfl : k = 4 := by omega
      go_wp2
      go_ret
      exact ⟨rfl, rfl⟩
theorem or_fil (y o m : Nat) (M : Int) (hM : M = (m : Int)) (hy : y < 256) (ho : o < 2) (hm : m < 256) : bits .or .u8 (y : Int) ((o : Int) * M % 256) = ((y ||| o * m : Nat) : Int) := by
  subst hM
  have h3 : o * m ≤ 1 * m := Nat.mul_le_mul_right m (by omega)
  rw [← u8_or_nat _ _ hy (show o * m < 256 by omega), ← Int.natCast_mul]
  congr 1
  omega
set_option maxHeartbeats 400000 in
theorem filled_any (x : Nat) (hx : x < 256) (w : World) : Calls Try.prog 36 #[.int .u8 (x : Int)] w fun e w' => e = .returned (.int .u8 (Hm.filled x : Nat)) ∧ ∃ n, w' = w.drewN n := by
  go_enter Try.func36, Try.ntmps36
  go_wp2
  go_loopw [0, 4] (fun v i wr => ∃ k : Nat, k ≤ 3 ∧ i = .int .i64 k ∧ v = .int .u8 (Hm.fi x k : Nat) ∧ ∃ n, wr = w.drewN n) (fun _ i _ => 3 - (intOf i).toNat)
  case atStart => exact ⟨0, by omega, rfl, rfl, 0, rfl⟩
  case round =>
    obtain ⟨k, hk, rfl, rfl, hw⟩ := hrel
    have HW := hide hw
    clear hw
    by_cases hlt : k < 3
    · have hf : Hm.fi x k < 256 := Hm.fi_lt ⟨x, hx⟩ ⟨k, by omega⟩
      have ht : Hm.told k < 256 := Hm.told_lt ⟨k, hlt⟩
      have HA := hide (u8_and_nat (Hm.fi x k) (Hm.told k) hf ht)
      have HT := hide (fun W => told_any k hlt (k : Int) rfl W)
      have HO := hide (fun W => odd_any _ _ HA.out (Nat.lt_of_le_of_lt Nat.and_le_left hf) W)
      obtain ⟨y, hy⟩ : ∃ y, y = Hm.fi x k := ⟨_, rfl⟩
      rw [← hy] at HA HO ⊢
      obtain ⟨z, hz⟩ : ∃ z, z = Hm.told k := ⟨_, rfl⟩
      rw [← hz] at HA HO HT
      have HY : Hid (y < 256) := by show y < 256; rw [hy]; exact hf
      have HN : Hid ((y ||| Hm.odd (y &&& z) * 2 ^ 2 ^ k : Nat) = Hm.fi x (k + 1)) := by subst hy hz; rfl
      clear hy hz hf ht
      have hod := Hm.odd_lt (y &&& z)
      rcases (by omega : k = 0 ∨ k = 1 ∨ k = 2) with rfl | rfl | rfl
      · have HE := hide (or_fil y (Hm.odd (y &&& z)) 2 2 rfl HY.out hod (by omega))
        clear hod
        go_wp2
        go_quiet (first
          | (go_at_call 40; exact quietC (HT.out _))
          | (go_at_call 39; exact quietC (HO.out _)))
        go_wp2
        refine ⟨⟨1, by omega, rfl, ?_, ?_⟩, by simp [intOf]⟩
        · rw [HE.out]; exact congrArg (fun n : Nat => Value.int .u8 (n : Int)) HN.out
        · obtain ⟨n, rfl⟩ := HW.out; exact ⟨_, World.drewN_drewN ..⟩
      · have HE := hide (or_fil y (Hm.odd (y &&& z)) 4 4 rfl HY.out hod (by omega))
        clear hod
        go_wp2
        go_quiet (first
          | (go_at_call 40; exact quietC (HT.out _))
          | (go_at_call 39; exact quietC (HO.out _)))
        go_wp2
        refine ⟨⟨2, by omega, rfl, ?_, ?_⟩, by simp [intOf]⟩
        · rw [HE.out]; exact congrArg (fun n : Nat => Value.int .u8 (n : Int)) HN.out
        · obtain ⟨n, rfl⟩ := HW.out; exact ⟨_, World.drewN_drewN ..⟩
      · have HE := hide (or_fil y (Hm.odd (y &&& z)) 16 16 rfl HY.out hod (by omega))
        clear hod
        go_wp2
        go_quiet (first
          | (go_at_call 40; exact quietC (HT.out _))
          | (go_at_call 39; exact quietC (HO.out _)))
        go_wp2
        refine ⟨⟨3, by omega, rfl, ?_, ?_⟩, by simp [intOf]⟩
        · rw [HE.out]; exact congrArg (fun n : Nat => Value.int .u8 (n : Int)) HN.out
        · obtain ⟨n, rfl⟩ := HW.out; exact ⟨_, World.drewN_drewN ..⟩
    · obtain rfl : k = 3 := by omega
      have hf : Hm.fi x 3 < 256 := Hm.fi_lt ⟨x, hx⟩ 3
      have HO := hide (fun W => odd_any (Hm.fi x 3 : Int) _ rfl hf W)
      have HE := hide (u8_or_nat (Hm.fi x 3) (Hm.odd (Hm.fi x 3)) hf (Nat.lt_trans (Hm.odd_lt _) (by omega)))
      obtain ⟨n, rfl⟩ := HW.out
      clear hf HW
      go_wp2_with fail
      refine (HO.out _).mono ?_; rintro e w' ⟨rfl, rfl⟩
      go_wp2
      go_ret
      exact ⟨congrArg (fun z => Ending.returned (.int .u8 z)) HE.out, n, rfl⟩
end Go.Proofs.Ytnoefbmdpbljhaa
