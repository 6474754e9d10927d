/- Layer 21's live; the hearer's contracts by what they make of a state. No conditions. -/
import Derived.Test.YtnbhgeodbpelgaaHeD
namespace Go.Proofs.Ytnbhgeodbpelgaa
open Go.RowKit
set_option linter.unusedVariables false
attribute [local go_sem ↓] Go.wp_at_zero Go.wp_at_succ

theorem num21 (w : World) (x : Int) : Calls Try.prog 30 #[.int .i64 x] w fun e w' => e = .returned (.int .i64 x) ∧ w = w' := by
  go_enter Try.func30, Try.ntmps30
  go_wp2
  go_ret
  exact ⟨rfl, rfl⟩
section
variable {w w' : World} {B gx room : Nat} {s s' : Hst} {F : Nat → Prop}
theorem hx_tick (h : He w B gx room s F) {ts : List Prb} {n : Nat} (hs : htickS s = s') (ht : htickT s = ts) (hn : ts.length = n) : Calls Try.prog 31 #[.pointer (some ⟨gx, 0, none⟩)] w fun e w' =>
    ∃ A c F', e = .returned (.slice A n c) ∧ Prbs (fun k => w.heap.size ≤ k ∧ ¬ F' k) w' A ts ∧ He w' B gx room s' F' ∧ Turn F F' w w' := by
  subst hs ht hn
  obtain ⟨gq, gl, gt, Fs, h⟩ := h
  exact he_tick h
theorem hx_take (h : He w B gx room s F) (hd : s.ent ≤ 1000000) (hT : tot s.t ≤ 900000) (k lb : Int) (A : Option Addr) (n c : Nat) (m : List Nat) (hn : m.length = n) (hA : Rd w.heap.size w A (u8s m)) (hAF : 0 < (u8s m).length → ∀ b o s', A = some ⟨b, o, s'⟩ → ¬ F b) (hm : Byt m) (hml : m.length ≤ 1000000) {ts : List Prb} {q : Nat} (hs : takeHS room s k lb m = s') (ht : takeHT s k = ts) (hq : ts.length = q) :
    Calls Try.prog 33 #[.pointer (some ⟨gx, 0, none⟩), .agg #[.int .i64 k, .int .i64 lb, .slice A n c]] w fun e w' =>
    ∃ A c F', e = .returned (.slice A q c) ∧ Prbs (fun k => w.heap.size ≤ k ∧ ¬ F' k) w' A ts ∧ He w' B gx room s' F' ∧ Turn F F' w w' := by
  subst hs ht hn hq
  obtain ⟨gq, gl, gt, Fs, h⟩ := h
  exact he_take h hd hT k lb A c m hA hAF hm (fun _ => hml)
/-- .. where nothing is heard. -/
theorem hx_deaf (h : He w B gx room s F) (hd : s.ent ≤ 1000000) (hT : tot s.t ≤ 900000) (hh : s.led.hearB = false) (k lb : Int) (A : Option Addr) (n c : Nat) (m : List Nat) (hn : m.length = n) (hA : Rd w.heap.size w A (u8s m)) (hAF : 0 < (u8s m).length → ∀ b o s', A = some ⟨b, o, s'⟩ → ¬ F b) (hm : Byt m) {ts : List Prb} {q : Nat} (hs : takeHS room s k lb m = s') (ht : takeHT s k = ts) (hq : ts.length = q) :
    Calls Try.prog 33 #[.pointer (some ⟨gx, 0, none⟩), .agg #[.int .i64 k, .int .i64 lb, .slice A n c]] w fun e w' =>
    ∃ A c F', e = .returned (.slice A q c) ∧ Prbs (fun k => w.heap.size ≤ k ∧ ¬ F' k) w' A ts ∧ He w' B gx room s' F' ∧ Turn F F' w w' := by
  subst hs ht hn hq
  obtain ⟨gq, gl, gt, Fs, h⟩ := h
  exact he_take h hd hT k lb A c m hA hAF hm (fun h2 => by rw [hh] at h2; cases h2)
/-- a text of one byte, taken. -/
theorem hx_lit (h : He w B gx room s F) (hd : s.ent ≤ 1000000) (hT : tot s.t ≤ 900000) (k lb : Int) (x : Nat) (hx : x < 256) {ts : List Prb} {q : Nat} (hs : takeHS room s k lb [x] = s') (ht : takeHT s k = ts) (hq : ts.length = q) :
    Calls Try.prog 33 #[.pointer (some ⟨gx, 0, none⟩), .agg #[.int .i64 k, .int .i64 lb, .slice (some ⟨w.heap.size, 0, none⟩) 1 1]] (w.alloc (.cells #[.int .u8 (x : Nat)] 5 (1, 2))) fun e w' =>
    ∃ A c F', e = .returned (.slice A q c) ∧ He w' B gx room s' F' ∧ Turn F F' w w' := by
  refine (hx_take (h.on ((Below.refl _ _).alloc (Nat.le_refl _) _)) hd hT k lb _ 1 1 [x] rfl (rd_lit1 w x) (fun _ b o s2 e => ?_) (by intro y hy; simp at hy; omega) (by simp) hs ht hq).mono ?_
  · injection e with e; injection e with e1 _; subst e1
    exact fun hf => by have := (h.foot _ hf).2; omega
  · rintro e w1 ⟨A, c, F', he, _, hm, ht2⟩
    exact ⟨A, c, F', he, hm, ((Turn.refl F w).alloc _).trans ht2⟩
theorem hx_recv (h : He w B gx room s F) (hd : s.ent ≤ 1000000) (hr : s.ret ≤ 1000000) (hT : tot s.t ≤ 1000000) {f : List Nat} {n : Nat} {b : Bool} (hs : recvHS room s = s') (hf : s.q.headD [] = f) (hn : f.length = n) (hb : decide (0 < s.q.length) = b) : Calls Try.prog 35 #[.pointer (some ⟨gx, 0, none⟩)] w fun e w' =>
    ∃ A c F', e = .returned (.tuple #[.slice A n c, .bool b]) ∧ w'.ownsRow w.heap.size 5 1 (.slice A n c) n (u8s f) ∧ (∀ k, (Value.slice A n c).ownBlock = some k → ¬ F' k) ∧ He w' B gx room s' F' ∧ Turn F F' w w' := by
  subst hs hf hn hb
  obtain ⟨gq, gl, gt, Fs, h⟩ := h
  exact he_recv h hd hr hT
theorem hx_state (h : He w B gx room s F) : Calls Try.prog 34 #[.pointer (some ⟨gx, 0, none⟩)] w fun e w' => e = .returned (.agg #[.int .i64 (s.ent : Nat), .int .i64 (s.ret : Nat), .int .u64 (s.led.out : Int), .int .u64 (s.led.mark : Int), .bool s.led.spent]) ∧ Below w.heap.size w w' := by
  obtain ⟨gq, gl, gt, Fs, h⟩ := h
  exact he_state h
end
def h21a : Hst := ⟨[], ⟨0, 0, false⟩, [], 0, 0⟩
def h21b : Hst := ⟨[], ⟨1, 0, false⟩, [], 0, 0⟩
def h21c : Hst := ⟨[[97]], ⟨0, 0, false⟩, [], 1, 0⟩
def h21d : Hst := ⟨[], ⟨0, 0, false⟩, [], 1, 1⟩
set_option maxRecDepth 100000 in
set_option maxHeartbeats 4000000 in
theorem live21 (w : World) : Calls Try.prog 28 #[] w fun e w' => e = .returned (.bool true) ∧ Below w.heap.size w w' := by
  have HCN := hide (he_new 2 (by omega) (by omega) 0 (by omega) w)
  have kc := conv1
  go_enter Try.func28, Try.ntmps28
  go_wp2_with fail
  refine HCN.out.mono ?_; rintro e w1 ⟨gx, F1, rfl, hc1, hb1⟩
  have HB1 := hide hb1
  have HC1 : Hid (He w1 w.heap.size gx 2 h21a F1) := hc1
  have HT := hide (hx_tick (s' := h21b) (ts := [(0, 0, [])]) HC1.out rfl rfl rfl)
  clear hc1 hb1 HCN
  go_wp2_with fail
  refine HT.out.mono ?_; rintro e w2 ⟨A2, c2, F2, rfl, hp2, hc2, ht2⟩
  have HC2 := hide hc2
  have HP2 := hide hp2
  have HB2 := hide (ht2.below HB1.out HC1.out.foot HB1.out.size)
  have HK := hide (hx_lit (s' := h21c) (ts := []) HC2.out (by simp [h21b]) (by simp [h21b, tot]) 3 0 97 (by omega) rfl rfl rfl)
  clear hp2 hc2 ht2 HT
  go_wp2_with fail
  refine HK.out.mono ?_; rintro e w3 ⟨A3, c3, F3, rfl, hc3, ht3⟩
  have HC3 := hide hc3
  have HP3 := hide (HP2.out.turned (fun _ h => h.2) ht3)
  have HB3 := hide (ht3.below HB2.out HC2.out.foot HB2.out.size)
  have HR := hide (hx_recv (s' := h21d) (f := [97]) HC3.out (by simp [h21c]) (by simp [h21c]) (by simp [h21c, tot]) rfl rfl rfl rfl)
  clear hc3 ht3 HK kc
  go_wp2_with fail
  refine HR.out.mono ?_; rintro e w4 ⟨A4, c4, F4, rfl, ho4, hn4, hc4, ht4⟩
  have HC4 := hide hc4
  have HO4 := hide ho4
  have HN4 := hide hn4
  have HP4 := hide (HP3.out.turned (fun _ h => h) ht4)
  have HB4 := hide (ht4.below HB3.out HC3.out.foot HB3.out.size)
  have HA := hide (hx_take (s' := h21d) (ts := [(4, 0, [])]) HC4.out (by simp [h21d]) (by simp [h21d, tot]) 1 0 none 0 0 [] rfl (Rd.nil _ _ _) (by intro h; cases h) (by intro y hy; cases hy) (by simp) rfl rfl rfl)
  clear ho4 hn4 hc4 ht4 HR
  go_wp2_with fail
  refine HA.out.mono ?_; rintro e w5 ⟨A5, c5, F5, rfl, hp5, hc5, ht5⟩
  have HP5 := hide hp5
  have HQ5 := hide (HP4.out.turned (fun _ h => h) ht5)
  have HO5 := hide (own_keep HO4.out (fun k hk => ht5.block k (own_block_lt HO4.out hk).2 (HN4.out k hk)))
  have HB5 := hide (ht5.below HB4.out HC4.out.foot HB4.out.size)
  clear hp5 hc5 ht5 HA
  go_wp2_with fail
  refine (num21 _ _).mono ?_; rintro e w' ⟨rfl, rfl⟩
  have HS1 := hide (prbs_sameN (c := c2) (d := 1) (n := 1) rfl (HQ5.out.on ((Below.refl w5.heap.size w5).alloc (Nat.le_refl _) (.cells #[.int .i64 0, .int .i64 0, .slice none 0 0] 36)))
    (prbs_one (P := fun _ => True) w5 0 0 none 0 [] 36 trivial (Rd.nil _ _ _) (by simp) (fun _ _ _ _ _ => trivial)) (by omega))
  go_wp2_with fail
  refine HS1.out.mono ?_; rintro e w6 ⟨rfl, hb6⟩
  have hb56 : Below w5.heap.size w5 w6 := below2 ((Below.refl w5.heap.size w5).alloc (Nat.le_refl _) _) hb6 (Nat.le_refl _)
  have HB6 := hide (below2 HB5.out hb56 (Nat.le_refl _))
  have hcv := run_text (P := Try.prog) (c := c4) (src := 34) (dst := 9) Try.underlying34 Try.underlying5 Try.underlying9 (own_rd (own_on HO5.out hb56)) (by simp)
  rw [show strOfNums (([97] : List Nat).map fun n : Nat => (n : Int)) = ⟨#[97]⟩ from rfl, show ([97] : List Nat).length = 1 from rfl] at hcv
  have HS2 := hide (prbs_sameN (c := c5) (d := 1) (n := 1) rfl ((HP5.out.on hb56).on ((Below.refl w6.heap.size w6).alloc (Nat.le_refl _) (.cells #[.int .i64 4, .int .i64 0, .slice none 0 0] 36)))
    (prbs_one (P := fun _ => True) w6 4 0 none 0 [] 36 trivial (Rd.nil _ _ _) (by simp) (fun _ _ _ _ _ => trivial)) (by omega))
  clear hb6 hb56 HS1
  go_wp2_with fail
  refine HS2.out.mono ?_; rintro e w7 ⟨rfl, hb7⟩
  have HB7 := hide (below2 HB6.out (below2 ((Below.refl w6.heap.size w6).alloc (Nat.le_refl _) _) hb7 (Nat.le_refl _)) (Nat.le_refl _))
  clear hb7 hcv
  go_wp2
  go_ret
  exact ⟨rfl, HB7.out⟩
end Go.Proofs.Ytnbhgeodbpelgaa
