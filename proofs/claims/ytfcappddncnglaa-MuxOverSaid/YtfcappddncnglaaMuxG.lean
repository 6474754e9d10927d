/- Layer 40: the page's example; the law MuxPuts, walked. No conditions. -/
import Derived.Test.YtfcappddncnglaaMuxF
namespace Go.Proofs.Ytfcappddncnglaa
open Go.RowKit
set_option linter.unusedVariables false

theorem num40 (n : Int) (w : World) : Calls Try.prog 33 #[.int .i64 n] w fun e w' => e = .returned (.int .i64 n) ∧ w = w' := by
  go_enter Try.func33, Try.ntmps33
  go_wp2
  go_ret
  exact ⟨rfl, rfl⟩
theorem mpush_one {w : World} {B gx room next : Nat} {Q : Nat → List (List Nat)} {F : Nat → Prop} (h : Mx w B gx room Q next F) (p : Int) (x : Nat) (X : Int) (L : Nat → List (List Nat)) (hX : X = (x : Int)) (hL : mpushL room Q p [x] = L) :
    Calls Try.prog 35 #[.pointer (some ⟨gx, 0, none⟩), .int .i64 p, .slice (some ⟨w.heap.size, 0, none⟩) 1 1] (w.alloc (.cells #[.int .u8 X] 5 (1, 2))) fun e w' => ∃ F' n, e = .returned (.int .i64 (n : Nat)) ∧ Mx w' B gx room L next F' ∧ Turn F F' w w' := by
  subst hL hX
  have hb : Below w.heap.size w (w.alloc (.cells #[.int .u8 (x : Nat)] 5 (1, 2))) := (Below.refl _ _).alloc (Nat.le_refl _) _
  refine (mux_push (h.on hb) p (some ⟨w.heap.size, 0, none⟩) 1 [x] (rd_lit1 w x)).mono ?_
  rintro e w' ⟨F', he, hq, ht⟩
  exact ⟨F', _, he, hq, (Turn.of_below hb).trans ht⟩
/-- Next, its answer named. -/
theorem mux_nextE {w : World} {B gx room next : Nat} {Q : Nat → List (List Nat)} {F : Nat → Prop} (h : Mx w B gx room Q next F) (hsm : ∀ i, i < 8 → ∀ m ∈ Q i, m.length ≤ 63) {f : List Nat} {b : Bool} {Q' : Nat → List (List Nat)} {n : Nat}
    (hf : tellF Q next = f) (hb : (nextOf Q next).isSome = b) (hQ : tellQ Q next = Q') (hn : tellN Q next = n) :
    Calls Try.prog 37 #[.pointer (some ⟨gx, 0, none⟩)] w (MPopR w B gx room Q next F f b Q' n) := by subst hf hb hQ hn; exact mux_next h hsm
theorem upd_small {Q : Nat → List (List Nat)} {p : Nat} {q : List (List Nat)} (h : ∀ i, i < 8 → ∀ m ∈ Q i, m.length ≤ 63) (hq : ∀ m ∈ q, m.length ≤ 63) : ∀ i, i < 8 → ∀ m ∈ upd Q p q i, m.length ≤ 63 := by
  intro i hi m hm
  unfold upd at hm
  by_cases e : i = p
  · rw [if_pos e] at hm; exact hq m hm
  · rw [if_neg e] at hm; exact h i hi m hm
def Q1 := upd emptyQ 2 [[97]]
def Q2 := upd Q1 2 [[97], [98]]
def Q3 := upd Q2 5 [[99]]
def Q4 := upd Q3 2 [[98]]
def Q5 := upd Q4 5 []
def Q6 := upd Q5 2 []
theorem sm3 : ∀ i, i < 8 → ∀ m ∈ Q3 i, m.length ≤ 63 := upd_small (upd_small (upd_small (by intro i _ m hm; simp [emptyQ] at hm) (by simp)) (by simp)) (by simp)
theorem sm4 : ∀ i, i < 8 → ∀ m ∈ Q4 i, m.length ≤ 63 := upd_small sm3 (by simp)
theorem sm5 : ∀ i, i < 8 → ∀ m ∈ Q5 i, m.length ≤ 63 := upd_small sm4 (by simp)
set_option maxRecDepth 100000 in
set_option maxHeartbeats 2000000 in
theorem live40 (w : World) : Calls Try.prog 34 #[] w fun e w' => e = .returned (.bool true) ∧ Below w.heap.size w w' := by
  have HN := hide (mux_new 4 (by omega) (by omega) w)
  have kc := conv1
  go_enter Try.func34, Try.ntmps34
  go_wp2_with fail
  refine HN.out.mono ?_; rintro e w1 ⟨gx, F1, rfl, hm, hb⟩
  have HP := hide (mpush_one (L := Q1) (X := 97) hm 2 97 rfl rfl)
  have HB := hide hb
  have HF := hide hm.foot
  clear hm hb HN
  go_wp2_with fail
  refine HP.out.mono ?_; rintro e w2 ⟨F2, n2, rfl, hm, ht⟩
  have HP2 := hide (mpush_one (L := Q2) (X := 98) hm 2 98 rfl rfl)
  have HB2 := hide (ht.below HB.out HF.out HB.out.size)
  have HF2 := hide hm.foot
  clear hm ht HP
  go_wp2_with fail
  refine HP2.out.mono ?_; rintro e w3 ⟨F3, n3, rfl, hm, ht⟩
  have HP3 := hide (mpush_one (L := Q3) (X := 99) hm 5 99 rfl rfl)
  have HB3 := hide (ht.below HB2.out HF2.out HB2.out.size)
  have HF3 := hide hm.foot
  clear hm ht HP2
  go_wp2_with fail
  refine HP3.out.mono ?_; rintro e w4 ⟨F4, n4, rfl, hm, ht⟩
  have HN4 := hide (mux_nextE (f := [2, 97]) (b := true) (Q' := Q4) (n := 3) hm sm3 rfl rfl rfl rfl)
  have HB4 := hide (ht.below HB3.out HF3.out HB3.out.size)
  have HF4 := hide hm.foot
  clear hm ht HP3
  go_wp2_with fail
  refine HN4.out.mono ?_; rintro e w5 ⟨A5, c5, rfl, ho5, hm, ht⟩
  have HN5 := hide (mux_nextE (f := [5, 99]) (b := true) (Q' := Q5) (n := 6) hm sm4 rfl rfl rfl rfl)
  have HB5 := hide (ht.below HB4.out HF4.out HB4.out.size)
  have HO5 := hide ho5
  have HF5 := hide hm.foot
  clear hm ht HN4 ho5
  go_wp2_with fail
  refine HN5.out.mono ?_; rintro e w6 ⟨A6, c6, rfl, ho6, hm, ht⟩
  have HN6 := hide (mux_nextE (f := [2, 98]) (b := true) (Q' := Q6) (n := 3) hm sm5 rfl rfl rfl rfl)
  have HB6 := hide (ht.below HB5.out HF5.out HB5.out.size)
  have HO5' := hide (own_keep HO5.out (fun k hk => ht.block k (own_block_lt HO5.out hk).2 (fun hf => by have := (HF4.out k hf).2; have := (own_block_lt HO5.out hk).1; omega)))
  have HO6 := hide ho6
  have HF6 := hide hm.foot
  clear hm ht HN5 ho6
  go_wp2_with fail
  refine HN6.out.mono ?_; rintro e w7 ⟨A7, c7, rfl, ho7, hm, ht⟩
  have HB7 := hide (ht.below HB6.out HF6.out HB6.out.size)
  have HS45 := hide HF4.out
  have ho5 := own_keep HO5'.out (fun k hk => ht.block k (own_block_lt HO5'.out hk).2 (fun hf => by have := (HF4.out k hf).2; have := (own_block_lt HO5'.out hk).1; omega))
  have ho6 := own_keep HO6.out (fun k hk => ht.block k (own_block_lt HO6.out hk).2 (fun hf => by have := (HF5.out k hf).2; have := (own_block_lt HO6.out hk).1; omega))
  have k5 := run_text (P := Try.prog) (c := c5) (src := 33) (dst := 9) Try.underlying33 Try.underlying5 Try.underlying9 (own_rd ho5) (by simp)
  have k6 := run_text (P := Try.prog) (c := c6) (src := 33) (dst := 9) Try.underlying33 Try.underlying5 Try.underlying9 (own_rd ho6) (by simp)
  have k7 := run_text (P := Try.prog) (c := c7) (src := 33) (dst := 9) Try.underlying33 Try.underlying5 Try.underlying9 (own_rd ho7) (by simp)
  rw [show strOfNums (([2, 97] : List Nat).map fun n : Nat => (n : Int)) = ⟨#[2, 97]⟩ from rfl, show ([2, 97] : List Nat).length = 2 from rfl] at k5
  rw [show strOfNums (([5, 99] : List Nat).map fun n : Nat => (n : Int)) = ⟨#[5, 99]⟩ from rfl, show ([5, 99] : List Nat).length = 2 from rfl] at k6
  rw [show strOfNums (([2, 98] : List Nat).map fun n : Nat => (n : Int)) = ⟨#[2, 98]⟩ from rfl, show ([2, 98] : List Nat).length = 2 from rfl] at k7
  clear hm ht HN6 ho7 ho5 ho6 kc
  go_wp2_with fail
  refine (num40 _ _).mono ?_; rintro e w' ⟨rfl, rfl⟩
  go_wp2
  go_ret
  exact ⟨rfl, HB7.out⟩
end Go.Proofs.Ytfcappddncnglaa
