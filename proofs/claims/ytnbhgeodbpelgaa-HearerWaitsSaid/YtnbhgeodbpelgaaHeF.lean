/- Layer 21: the law HearerWaits, walked. No conditions. -/
import Derived.Test.YtnbhgeodbpelgaaHeE
import Derived.Test.YtnbhgeodbpelgaaIn
namespace Go.Proofs.Ytnbhgeodbpelgaa
open Go.RowKit
set_option linter.unusedVariables false
attribute [local go_sem ↓] Go.wp_at_zero Go.wp_at_succ

/-- m is in the queue; n has been told so often. -/
def wT (n : List Nat) (i : Nat) : List Trow := if i = 0 then [] else [(1, n, i)]
def hW0 : Hst := ⟨[], ⟨0, 0, false⟩, [], 0, 0⟩
def hW1 : Hst := ⟨[], ⟨1, 0, false⟩, [], 0, 0⟩
def hW (m n : List Nat) (o i : Nat) : Hst := ⟨[m], ⟨o, 0, false⟩, wT n i, 1, 0⟩
def hWr (n : List Nat) : Hst := ⟨[n], ⟨0, 0, false⟩, [], 2, 1⟩
def hWs : Hst := ⟨[], ⟨0, 0, false⟩, [], 2, 2⟩
theorem wT_add (n : List Nat) (i : Nat) : addT (wT n i) 1 n = wT n (i + 1) := by
  unfold wT
  by_cases h : i = 0
  · subst h; simp [addT, idxT]
  · simp [h, addT, idxT, upT, List.findIdx?_cons]
theorem wT_tot (n : List Nat) (i : Nat) : tot (wT n i) = i := by
  unfold wT
  by_cases h : i = 0
  · subst h; rfl
  · simp [h, tot]
theorem w_first (m : List Nat) (h : m.length ≤ 64) : takeHS 1 hW1 3 0 m = hW m [] 0 0 := by
  have h2 : ¬ 64 < m.length := by omega
  simp [takeHS, hW1, hW, wT, heardH, Led.hearB, Led.hear, enterS, bestH, addT, idxT, bestT, bestF, Led.enough, pushE, pushL, Led.set, h2]
theorem w_more (m n : List Nat) (i : Nat) : takeHS 1 (hW m n 1 i) 3 1 n = hW m n 0 (i + 1) := by
  have h := wT_add n i
  simp [takeHS, hW, heardH, Led.hearB, Led.hear, enterS, h]
theorem w_tick (m n : List Nat) (i : Nat) : htickS (hW m n 0 i) = hW m n 1 i := by
  unfold htickS hW Led.ask
  rw [if_neg (by simp), topB_lt (show 0 + 1 < 18446744073709551615 by omega)]
theorem w_recv (m n : List Nat) (i : Nat) (hi : 0 < i) (h : n.length ≤ 64) : recvHS 1 (hW m n 0 i) = hWr n := by
  have h2 : ¬ 64 < n.length := by omega
  have h3 : ¬ i = 0 := by omega
  simp [recvHS, hW, hWr, wT, h3, enterS, bestH, bestT, bestF, Led.enough, pushE, pushL, Led.set, h2, hi]
theorem w_recv2 (n : List Nat) : recvHS 1 (hWr n) = hWs := by
  simp [recvHS, hWr, hWs, enterS, bestH, bestT]
set_option maxRecDepth 100000 in
set_option maxHeartbeats 4000000 in
theorem waits_bad (w : World) (A C : Option Addr) (c d n k : Nat) (h : 64 < n ∨ 64 < k) :
    Calls Try.prog 6 #[.slice A n c, .slice C k d] w fun e w' => e = .returned (.bool true) ∧ Below w.heap.size w w' := by
  by_cases h1 : (64 : Int) < (n : Int)
  · clear h
    go_enter Try.func6, Try.ntmps6
    go_wp2_with fail
    refine (live21 _).mono ?_; rintro e w' ⟨rfl, hb⟩
    go_wp2
    go_ret
    exact ⟨rfl, hb⟩
  · have h2 : (64 : Int) < (k : Int) := by omega
    clear h
    go_enter Try.func6, Try.ntmps6
    go_wp2_with fail
    refine (live21 _).mono ?_; rintro e w' ⟨rfl, hb⟩
    go_wp2
    go_ret
    exact ⟨rfl, hb⟩
def KeepW (w wr : World) (gx room : Nat) (s : Hst) : Prop := ∃ F, He wr w.heap.size gx room s F ∧ Below w.heap.size w wr
theorem KeepW.turn {w wr w' : World} {gx room : Nat} {s s' : Hst} {F F' : Nat → Prop} (h : He wr w.heap.size gx room s F) (hb : Below w.heap.size w wr) (hm : He w' w.heap.size gx room s' F') (ht : Turn F F' wr w') : KeepW w w' gx room s' :=
  ⟨F', hm, ht.below hb h.foot hb.size⟩
/-- what came in is off what the call made. -/
theorem he_off {w wr : World} {gx room : Nat} {s : Hst} {F : Nat → Prop} {A : Option Addr} {l : List Nat} (h : He wr w.heap.size gx room s F) (hA : Rd w.heap.size w A (u8s l)) : 0 < (u8s l).length → ∀ b o s', A = some ⟨b, o, s'⟩ → ¬ F b := fun hn b o s' e hf => by
  obtain ⟨b', o', e', hb, _⟩ := hA hn
  rw [e] at e'
  injection e' with e'
  injection e' with e1
  have := (h.foot b hf).1
  omega
set_option maxRecDepth 100000 in
set_option maxHeartbeats 4000000 in
theorem waits_in (w : World) (A C : Option Addr) (c d : Nat) (m n : List Nat) (hm : In8 w A c m) (hn : In8 w C d n) (hm64 : m.length ≤ 64) (hn64 : n.length ≤ 64) :
    Calls Try.prog 6 #[.slice A m.length c, .slice C n.length d] w fun e w' => e = .returned (.bool true) ∧ Below w.heap.size w w' := by
  have HM := hide hm
  have HN := hide hn
  have HCN := hide (he_new 1 (by omega) (by omega) 0 (by omega) w)
  clear hm hn
  go_enter Try.func6, Try.ntmps6
  go_wp2_with fail
  refine HCN.out.mono ?_; rintro e w1 ⟨gx, F1, rfl, hc1, hb1⟩
  have HB1 := hide hb1
  have HC1 : Hid (He w1 w.heap.size gx 1 hW0 F1) := hc1
  have HT := hide (hx_tick (s' := hW1) (ts := [(0, 0, [])]) HC1.out rfl rfl rfl)
  have H64 := hide (And.intro hm64 hn64)
  clear hc1 hb1 HCN hm64 hn64
  go_wp2_with fail
  refine (num21 _ _).mono ?_; rintro e w' ⟨rfl, rfl⟩
  go_wp2_with fail
  refine HT.out.mono ?_; rintro e w2 ⟨A2, c2, F2, rfl, _, hc2, ht2⟩
  have HC2 := hide hc2
  have HB2 := hide (ht2.below HB1.out HC1.out.foot HB1.out.size)
  have HK := hide (hx_take (s' := hW m [] 0 0) (ts := []) HC2.out (by simp [hW1]) (by simp [hW1, tot]) 3 0 A m.length c m rfl ((HM.out.rd.below HB2.out (Nat.le_refl _)).more HB2.out.size) (he_off HC2.out HM.out.rd) HM.out.byt (by have := H64.out.1; omega) (w_first m H64.out.1) rfl rfl)
  clear hc2 ht2 HT
  go_wp2_with fail
  refine HK.out.mono ?_; rintro e w3 ⟨A3, c3, F3, rfl, _, hc3, ht3⟩
  have HK3 : Hid (KeepW w w3 gx 1 (hW m n 0 0)) := KeepW.turn HC2.out HB2.out hc3 ht3
  clear hc3 ht3 HK
  go_wp2
  go_loopw [7] (fun i wr => ∃ k : Nat, k ≤ 3 ∧ i = .int .i64 k ∧ Hid (KeepW w wr gx 1 (hW m n 0 k))) (fun i _ => 3 - (intOf i).toNat)
  case atStart => exact ⟨0, Nat.zero_le _, rfl, HK3.out⟩
  case round =>
    obtain ⟨k, hk, rfl, hrel⟩ := hrel
    obtain ⟨F, hc, hb⟩ := hrel.out
    have HC := hide hc
    have HB := hide hb
    clear hrel hc hb HK3
    by_cases hlt : k < 3
    · have HT := hide (hx_tick (s' := hW m n 1 k) (ts := [(0, 0, [])]) HC.out (w_tick m n k) rfl rfl)
      go_wp2_with fail
      refine HT.out.mono ?_; rintro e w5 ⟨A5, c5, F5, rfl, _, hc5, ht5⟩
      have HC5 := hide hc5
      have HB5 := hide (ht5.below HB.out HC.out.foot HB.out.size)
      have HK := hide (hx_take (s' := hW m n 0 (k + 1)) (ts := []) HC5.out (by simp [hW]) (by show tot (wT n k) ≤ _; rw [wT_tot]; omega) 3 1 C n.length d n rfl ((HN.out.rd.below HB5.out (Nat.le_refl _)).more HB5.out.size) (he_off HC5.out HN.out.rd) HN.out.byt (by have := H64.out.2; omega) (w_more m n k) rfl rfl)
      clear hc5 ht5 HT
      go_wp2_with fail
      refine HK.out.mono ?_; rintro e w6 ⟨A6, c6, F6, rfl, _, hc6, ht6⟩
      have HK6 : Hid (KeepW w w6 gx 1 (hW m n 0 (k + 1))) := KeepW.turn HC5.out HB5.out hc6 ht6
      clear hc6 ht6 HK
      go_wp2
      go_roundw
      case rel => exact ⟨k + 1, by omega, by go_num, HK6.out⟩
      case measure => simp [intOf]; omega
    · obtain rfl : k = 3 := by omega
      have HST : Hid (Calls Try.prog 34 #[.pointer (some ⟨gx, 0, none⟩)] wr fun e w' => e = .returned (.agg #[.int .i64 1, .int .i64 0, .int .u64 0, .int .u64 0, .bool false]) ∧ Below wr.heap.size wr w') := hx_state HC.out
      have hfd : ∀ w : World, (Instr.field 61 (.agg #[.int .i64 1, .int .i64 0, .int .u64 0, .int .u64 0, .bool false]) 0).run Try.prog w = .ok (.int .i64 1) w := fun _ => by kernel_rfl
      clear hk hlt
      go_wp2_with fail
      refine HST.out.mono ?_; rintro e w5 ⟨rfl, hb5⟩
      have HC5 := hide (HC.out.on hb5)
      have HB5 := hide (below2 HB.out hb5 (Nat.le_refl _))
      have HR := hide (hx_recv (s' := hWr n) (f := m) (n := m.length) (b := true) HC5.out (by simp [hW]) (by simp [hW]) (by show tot (wT n 3) ≤ _; rw [wT_tot]; omega) (w_recv m n 3 (by omega) H64.out.2) rfl rfl rfl)
      clear hb5 HST HC HB
      go_wp2_with fail
      refine HR.out.mono ?_; rintro e w6 ⟨A6, c6, F6, rfl, ho6, hn6, hc6, ht6⟩
      have HC6 := hide hc6
      have HO6 := hide ho6
      have HN6 := hide hn6
      have HB6 := hide (ht6.below HB5.out HC5.out.foot HB5.out.size)
      have HST : Hid (Calls Try.prog 34 #[.pointer (some ⟨gx, 0, none⟩)] w6 fun e w' => e = .returned (.agg #[.int .i64 2, .int .i64 1, .int .u64 0, .int .u64 0, .bool false]) ∧ Below w6.heap.size w6 w') := hx_state HC6.out
      clear ho6 hn6 hc6 ht6 HR
      go_wp2_with fail
      refine HST.out.mono ?_; rintro e w7 ⟨rfl, hb7⟩
      obtain ⟨w8, hw8⟩ : ∃ w8, w8 = w7.alloc (.cells #[.int .i64 2, .int .i64 1, .int .u64 0, .int .u64 0, .bool false] 61) := ⟨_, rfl⟩
      have HX8 : Hid (Blk w8 w7.heap.size 61 [.int .i64 2, .int .i64 1, .int .u64 0, .int .u64 0, .bool false]) := by rw [hw8]; exact Blk.new w7 _ _
      have hb78 : Below w7.heap.size w7 w8 := by rw [hw8]; exact (Below.refl _ _).alloc (Nat.le_refl _) _
      have hb68 := below2 hb7 hb78 (Nat.le_refl _)
      have HC8 := hide (HC6.out.on hb68)
      have HO8 := hide (own_on HO6.out hb68)
      have HB8 := hide (below2 HB6.out hb68 (Nat.le_refl _))
      have HNF : Hid (¬ F6 w7.heap.size) := fun hf => by have := (HC6.out.foot _ hf).2; have := hb7.size; omega
      have HW8 := hide hw8
      have HR2 := hide (hx_recv (s' := hWs) (f := n) (n := n.length) (b := true) HC8.out (by simp [hWr]) (by simp [hWr]) (by simp [hWr, tot]) (w_recv2 n) rfl rfl rfl)
      clear hb7 hb78 hb68 hw8 HST
      go_wp2_with fail
      rw [← HW8.out]
      refine HR2.out.mono ?_; rintro e w9 ⟨A9, c9, F9, rfl, ho9, hn9, hc9, ht9⟩
      have HC9 := hide hc9
      have HO9 := hide ho9
      have HN9 := hide hn9
      have HX9 := hide (HX8.out.kept (ht9.block _ HX8.out.lt HNF.out))
      have HNF9 : Hid (¬ F9 w7.heap.size) := fun hf => (ht9.new _ hf).elim HNF.out (fun h => by have := HX8.out.lt; omega)
      have HO69 := hide (own_keep HO8.out (fun j hj => ht9.block j (own_block_lt HO8.out hj).2 (HN6.out j hj)))
      have HN69 : Hid (∀ j, (Value.slice A6 m.length c6).ownBlock = some j → ¬ F9 j) := fun j hj hf => (ht9.new j hf).elim (HN6.out j hj) (fun h => by have := (own_block_lt HO8.out hj).2; omega)
      have HB9 := hide (ht9.below HB8.out HC8.out.foot HB8.out.size)
      have HR3 := hide (hx_recv (s' := hWs) (f := []) (n := 0) (b := false) HC9.out (by simp [hWs]) (by simp [hWs]) (by simp [hWs, tot]) rfl rfl rfl rfl)
      clear ho9 hn9 hc9 ht9 HR2
      go_wp2_with fail
      refine HR3.out.mono ?_; rintro e w10 ⟨A10, c10, F10, rfl, _, _, hc10, ht10⟩
      have hx10 := HX9.out.kept (ht10.block _ HX9.out.lt HNF9.out)
      have HX10 := hide hx10
      have HO10 := hide (own_keep HO69.out (fun j hj => ht10.block j (own_block_lt HO69.out hj).2 (HN69.out j hj)))
      have HP10 := hide (own_keep HO9.out (fun j hj => ht10.block j (own_block_lt HO9.out hj).2 (HN9.out j hj)))
      have HB10 := hide (ht10.below HB9.out HC9.out.foot HB9.out.size)
      have HS1 := hide (same_eq (c := c6) (d := c) (own_rd HO10.out) (HM.out.rd.on HB10.out) (by have := H64.out.1; omega))
      clear hc10 ht10 hx10 HR3
      go_wp2_with fail
      refine HS1.out.mono ?_; rintro e w11 ⟨rfl, hb11⟩
      have HB11 := hide (below2 HB10.out hb11 (Nat.le_refl _))
      have HS2 := hide (same_eq (c := c9) (d := d) (own_rd (own_on HP10.out hb11)) (HN.out.rd.on HB11.out) (by have := H64.out.2; omega))
      have HX11 := hide (HX10.out.on hb11)
      clear hb11 HS1
      go_wp2_with fail
      refine HS2.out.mono ?_; rintro e w12 ⟨rfl, hb12⟩
      have HB12 := hide (below2 HB11.out hb12 (Nat.le_refl _))
      have x0 := (HX11.out.on hb12).cell (i := 0) rfl
      have x1 := (HX11.out.on hb12).cell (i := 1) rfl
      clear hb12 HS2
      go_wp2_with fail
      refine (live21 _).mono ?_; rintro e w' ⟨rfl, hbl⟩
      have HBL := hide (below2 HB12.out hbl (Nat.le_refl _))
      clear hbl
      go_wp2
      go_ret
      exact ⟨rfl, HBL.out⟩
theorem walk_HearerWaits (w : World) (A : Option Addr) (c : Nat) (m : List Nat) (hm : In8 w A c m) (C : Option Addr) (d : Nat) (n : List Nat) (hn : In8 w C d n) :
    Calls Try.prog 6 #[.slice A m.length c, .slice C n.length d] w fun e w' => e = .returned (.bool true) ∧ Below w.heap.size w w' := by
  by_cases h : 64 < m.length ∨ 64 < n.length
  · exact waits_bad w A C c d _ _ h
  · exact waits_in w A C c d m n hm hn (by omega) (by omega)
end Go.Proofs.Ytnbhgeodbpelgaa
