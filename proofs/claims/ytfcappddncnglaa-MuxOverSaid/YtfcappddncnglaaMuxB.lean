/- Layer 40: Put and Get, and their references, by what they compute. No conditions. -/
import Derived.Test.YtfcappddncnglaaMuxA
namespace Go.Proofs.Ytfcappddncnglaa
open Go.RowKit
set_option linter.unusedVariables false

/-- what Put tells. -/
def PutR (p : Int) (m : List Nat) (w : World) (e : Ending) (w' : World) : Prop :=
  ∃ A c, e = .returned (.tuple #[.slice A (putM p m).length c, .int .i64 (putE p m : Nat)]) ∧ w'.ownsRow w.heap.size 5 1 (.slice A (putM p m).length c) (putM p m).length (u8s (putM p m)) ∧ Below w.heap.size w w'
theorem putM_bad {p : Int} {m : List Nat} (h : putE p m ≠ 0) : putM p m = [] := by
  unfold putE at h; unfold putM
  by_cases h1 : p < 0 ∨ 8 ≤ p
  · rw [if_pos h1]
  · rw [if_neg h1] at h ⊢
    by_cases h2 : 63 < m.length
    · rw [if_pos h2]
    · rw [if_neg h2] at h; exact absurd rfl h
theorem putE_ok {p : Int} {m : List Nat} (h : putE p m = 0) : 0 ≤ p ∧ p < 8 ∧ m.length ≤ 63 ∧ putM p m = p.toNat :: m := by
  unfold putE at h; unfold putM
  by_cases h1 : p < 0 ∨ 8 ≤ p
  · rw [if_pos h1] at h; omega
  · rw [if_neg h1] at h ⊢
    by_cases h2 : 63 < m.length
    · rw [if_pos h2] at h; omega
    · rw [if_neg h2]; exact ⟨by omega, by omega, by omega, rfl⟩
theorem putE_lt (p : Int) (m : List Nat) : putE p m < 4 := by
  unfold putE
  split
  · omega
  · split <;> omega
set_option maxHeartbeats 1000000 in
theorem put_any (p : Int) (A : Option Addr) (c : Nat) (m : List Nat) (w : World) (hA : Rd w.heap.size w A (u8s m)) :
    Calls Try.prog 38 #[.int .i64 p, .slice A m.length c] w (PutR p m w) := by
  have HC := hide (check_any p m A c w)
  by_cases h : putE p m = 0
  · obtain ⟨h0, h8, h63, hM⟩ := putE_ok h
    obtain ⟨q, rfl⟩ := Int.eq_ofNat_of_zero_le h0
    have HE := hide h
    have HM : Hid (putM (q : Int) m = q :: m) := hM
    rw [h] at HC
    have HA := hide hA
    have H63 := hide h63
    have h256 : ((q : Int)) < 256 := by omega
    clear hA h63 h hM h0 h8
    go_enter Try.func38, Try.ntmps38
    go_wp2_with fail
    refine HC.out.mono ?_; rintro e w' ⟨rfl, rfl⟩
    go_wp2_with fail
    have hb1 : Below w.heap.size w (w.alloc (.cells #[.int .u8 (q : Int)] 5)) := (Below.refl _ _).alloc (Nat.le_refl _) _
    have hrow := rd_lit (w.alloc (.cells #[.int .u8 (q : Int)] 5)) [.slice (some ⟨w.heap.size, 0, none⟩) 1 1, .slice A m.length c] 33
    have hb2 : Below (w.alloc (.cells #[.int .u8 (q : Int)] 5)).heap.size (w.alloc (.cells #[.int .u8 (q : Int)] 5)) ((w.alloc (.cells #[.int .u8 (q : Int)] 5)).alloc (.cells #[.slice (some ⟨w.heap.size, 0, none⟩) 1 1, .slice A m.length c] 33)) := (Below.refl _ _).alloc (Nat.le_refl _) _
    have ht1 : Tx (w.alloc (.cells #[.int .u8 (q : Int)] 5)) (.slice (some ⟨w.heap.size, 0, none⟩) 1 1) [q] := ⟨_, 1, rfl, (rd_lit w [.int .u8 (q : Int)] 5).more (by simp)⟩
    have ht2 : Tx (w.alloc (.cells #[.int .u8 (q : Int)] 5)) (.slice A m.length c) m := ⟨A, c, rfl, HA.out.on hb1⟩
    have hj := join_any (c := 2) (ms := [[q], m]) (hrow.more (by simp)) (((((Txs.nil _).snoc ht1).snoc ht2)).on hb2) (by simp) (by have := H63.out; simp; omega)
    rw [show ([[q], m] : List (List Nat)).flatten = q :: m by simp, show (w.alloc (.cells #[.int .u8 (q : Int)] 5)).heap.size = w.heap.size + 1 by simp, show ([[q], m] : List (List Nat)).length = 2 from rfl] at hj
    have HJ := hide hj
    clear hj
    have HB := hide (below2 hb1 hb2 (Nat.le_refl _))
    clear hb1 hb2 hrow ht1 ht2
    refine HJ.out.mono ?_; rintro e w1 ⟨A1, c1, rfl, ho1, hbj⟩
    have HO := hide ho1
    have HBJ := hide hbj
    clear ho1 hbj
    go_wp2
    go_ret2
    unfold PutR
    rw [HM.out, HE.out]
    exact ⟨A1, c1, rfl, own_more HO.out HB.out.size, below2 HB.out HBJ.out (Nat.le_refl _)⟩
  · have HM := hide (putM_bad h)
    obtain ⟨n, hn⟩ : ∃ n, n = putE p m := ⟨_, rfl⟩
    have HN := hide hn
    rw [← hn] at HC h
    have hne : ((n : Int) != 0) = true := by simp; omega
    clear hn h hA
    go_enter Try.func38, Try.ntmps38
    go_wp2_with fail
    refine HC.out.mono ?_; rintro e w' ⟨rfl, rfl⟩
    go_wp2
    go_ret2
    unfold PutR
    rw [HM.out, ← HN.out]
    exact ⟨none, 0, rfl, World.ownsRow_nil _ _ _ _, Below.refl _ _⟩
/-- a literal slice of one element. -/
theorem own_one (w : World) (t : TypeId) (v : Value) (h : v.oneCell' = true) : (w.alloc (.cells #[v] t)).ownsRow w.heap.size t 1 (.slice (some ⟨w.heap.size, 0, none⟩) 1 1) 1 [v] :=
  ⟨rfl, .inr ⟨w.heap.size, 1, #[v], rfl, Nat.le_refl _, heap_alloc_new w _, Nat.le_refl _, by unfold maxLen; omega, rfl, rfl⟩⟩
set_option maxRecDepth 100000 in
set_option maxHeartbeats 1000000 in
theorem rput_any (p : Int) (A : Option Addr) (c : Nat) (m : List Nat) (w : World) (hA : Rd w.heap.size w A (u8s m)) :
    Calls Try.prog 39 #[.int .i64 p, .slice A m.length c] w (PutR p m w) := by
  obtain ⟨i0, hi, hz0, hz1, hz2⟩ := info_parts Try.inf8
  have HA := hide hA
  clear hA
  unfold PutR putM putE
  by_cases h1 : p < 0 ∨ 8 ≤ p
  · rw [if_pos h1, if_pos h1]
    rcases h1 with h | h
    · go_enter Try.func39, Try.ntmps39
      go_wp2
      go_ret2
      exact ⟨none, 0, rfl, World.ownsRow_nil _ _ _ _, Below.refl _ _⟩
    · have h0 : ¬ p < 0 := by omega
      have h7 : (7 : Int) < p := by omega
      clear h
      go_enter Try.func39, Try.ntmps39
      go_wp2
      go_ret2
      exact ⟨none, 0, rfl, World.ownsRow_nil _ _ _ _, Below.refl _ _⟩
  · rw [if_neg h1, if_neg h1]
    obtain ⟨q, rfl⟩ := Int.eq_ofNat_of_zero_le (show 0 ≤ p by omega)
    have h7 : ¬ (7 : Int) < (q : Int) := by omega
    clear h1
    by_cases h2 : 63 < m.length
    · rw [if_pos h2, if_pos h2]
      go_enter Try.func39, Try.ntmps39
      go_wp2
      go_ret2
      exact ⟨none, 0, rfl, World.ownsRow_nil _ _ _ _, Below.refl _ _⟩
    · rw [if_neg h2, if_neg h2]
      have h63 : ¬ (63 : Int) < (m.length : Int) := by omega
      have HM3 := hide (u8s_length m).symm
      have g1 : 1 + (u8s m).length ≤ 9223372036854775807 := by rw [u8s_length]; omega
      have g2 : (1 + (u8s m).length) * 1 ≤ 140737488355328 := by rw [u8s_length]; omega
      clear h2
      go_enter Try.func39, Try.ntmps39
      go_wp2_with (at_builtin; refine wpList_appN _ rfl (.tmp 17) (.tmp 18) 33 rfl w.heap.size 5 i0 (.int .u8 0) 1 Try.underlying33 hi hz0 hz1 hz2 rfl _ _ _ rfl (own_one w _ _ rfl) A c w.heap.size m.length (u8s m) (by rfl) HM3.out ((HA.out).below ((Below.refl _ _).alloc (Nat.le_refl _) _) (Nat.le_refl _)) (u8s_one m) g1 g2 ((Below.refl w.heap.size w).alloc (Nat.le_refl _) _).size ?_; intro v' w2 hown1 hg1 hat1)
      have h0 : ¬ (q : Int) < 0 := by omega
      go_ret2
      obtain ⟨A', c', rfl, _⟩ := own_val hown1
      have hb := below_app ((Below.refl _ _).alloc (Nat.le_refl _) _) (own_one w _ _ rfl) hg1 ((Below.refl w.heap.size w).alloc (Nat.le_refl _) _).size
      rw [← HM3.out, show 1 + m.length = m.length + 1 by omega] at hown1 ⊢
      exact ⟨A', c', rfl, hown1, hb⟩
end Go.Proofs.Ytfcappddncnglaa
