/- Layer 21: Kept; the hearer and its reference's, side by side: alike. No conditions. -/
import Derived.Test.YtnbhgeodbpelgaaHeO
import Derived.Deep.QuietTactic
import Derived.Deep.RegionHeld3
namespace Go.Proofs.Ytnbhgeodbpelgaa
open Go.RowKit
set_option linter.unusedVariables false
attribute [local go_sem ↓] Go.wp_at_zero Go.wp_at_succ

set_option maxHeartbeats 1000000 in
theorem sameAll_eqH {A C : Option Addr} {c d : Nat} {vs us : List Value} {ms : List (List Nat)} {w : World} (hA : Rd w.heap.size w A vs) (hC : Rd w.heap.size w C us) (ha : Txs w vs ms) (hc : Txs w us ms) (hl : ms.length ≤ 9223372036854775807) (hm : ∀ m ∈ ms, m.length ≤ 9223372036854775807) :
    Calls Try.prog 85 #[.slice A ms.length c, .slice C ms.length d] w fun e w' => e = .returned (.bool true) ∧ ∃ n, w' = w.drewN n := by
  have HA := hide hA
  have HC := hide hC
  have HTA := hide ha
  have HTC := hide hc
  have HM := hide hm
  clear hA hC ha hc hm
  go_enter Try.func85, Try.ntmps85
  go_wp2
  go_loopw [5] (fun i wr => ∃ k : Nat, k ≤ ms.length ∧ i = .int .i64 k ∧ ∃ n, wr = w.drewN n) (fun i _ => ms.length - (intOf i).toNat)
  case atStart => exact ⟨0, Nat.zero_le _, rfl, 0, rfl⟩
  case round =>
    obtain ⟨k, hk, rfl, n, hwr⟩ := hrel
    by_cases hlt : k < ms.length
    · obtain ⟨m, hmk⟩ : ∃ m, ms[k]? = some m := ⟨_, List.getElem?_eq_getElem hlt⟩
      obtain ⟨v, hv, X, cx, rfl, hX⟩ := HTA.out.2 k m hmk
      obtain ⟨u, hu, Y, cy, rfl, hY⟩ := HTC.out.2 k m hmk
      obtain ⟨b1, o1, rfl, _, hc1⟩ := (show Rd w.heap.size (w.drewN n) A vs from HA.out).at_ hv
      obtain ⟨b2, o2, rfl, _, hc2⟩ := (show Rd w.heap.size (w.drewN n) C us from HC.out).at_ hu
      rw [← hwr] at hc1 hc2
      have HW := hide hwr
      have HS := hide (fun q => same_eq (w := (wr.drewN q)) (c := cx) (d := cy) (B := wr.heap.size) (by rw [hwr]; exact hX) (by rw [hwr]; exact hY) (HM.out m (List.mem_of_getElem? hmk)))
      have HS2 := hide (fun q => (same_any X Y cx cy wr.heap.size m m (wr.drewN q) (by rw [hwr]; exact hX) (by rw [hwr]; exact hY) (HM.out m (List.mem_of_getElem? hmk))))
      have g0 : (0 : Int) ≤ (k : Int) := by omega
      have g1 : (k : Int) < (ms.length : Int) := by omega
      have hmm : (m == m) = true := by simp
      rw [hmm] at HS2
      clear hwr hmk hX hY hv hu HS hmm
      go_wp2
      go_quiet (first | (go_at_call 32; exact Calls.quiet_of (HS2.out _)))
      go_wp2
      go_roundw
      case rel => exact ⟨k + 1, by omega, by go_num, n + nq, by rw [HW.out, World.drewN_drewN]⟩
      case measure => simp [intOf]; omega
    · go_wp2
      go_ret
      exact ⟨rfl, n, rfl⟩
theorem sameAll_eqB21 {ms : List (List Nat)} {w : World} {A C : Option Addr} {c d : Nat} {vs us : List Value} (hA : Rd w.heap.size w A vs) (hC : Rd w.heap.size w C us) (ha : Txs w vs ms) (hc : Txs w us ms) (hl : ms.length ≤ 9223372036854775807) (hm : ∀ m ∈ ms, m.length ≤ 9223372036854775807) :
    Calls Try.prog 85 #[.slice A ms.length c, .slice C ms.length d] w fun e w' => e = .returned (.bool true) ∧ Below w.heap.size w w' :=
  (sameAll_eqH hA hC ha hc hl hm).mono fun e w' ⟨he, n, hn⟩ => ⟨he, by rw [hn]; exact below_drewN (Below.refl _ _) n⟩
theorem he_kept {w : World} {B gx room : Nat} {s : Hst} {F : Nat → Prop} (h : He w B gx room s F) :
    Calls Try.prog 42 #[.pointer (some ⟨gx, 0, none⟩)] w (AllR s.q w) := by
  obtain ⟨gq, gl, gt, Fs, h⟩ := h
  have HI := hide (he_is h)
  have c0 := h.cells.1
  have HQ := hide (que_all h.q)
  clear h
  go_enter Try.func42, Try.ntmps42
  go_wp2_with fail
  refine HI.out.mono ?_; rintro e w' ⟨rfl, rfl⟩
  go_wp2_with fail
  refine HQ.out.mono ?_; rintro e w1 ⟨A, c, vs, rfl, h1, h2, h3⟩
  have H1 := hide h1
  have H2 := hide h2
  have H3 := hide h3
  clear h1 h2 h3
  go_wp2
  go_ret
  exact ⟨A, c, vs, rfl, H1.out, H2.out, H3.out⟩
/-- both hearers, off one another. -/
structure BothH (w0 w : World) (B2 gx gy room : Nat) (s : Hst) (F G : Nat → Prop) : Prop where
  m : He w w0.heap.size gx room s F
  r : RHe w B2 gy room s G
  off : Off F G
  lo : w0.heap.size ≤ B2
  bel : Below w0.heap.size w0 w
section
variable {w0 w w1 w2 : World} {B2 gx gy room : Nat} {s s' : Hst} {F F' G G' : Nat → Prop}
theorem BothH.on (h : BothH w0 w B2 gx gy room s F G) (hb : Below w.heap.size w w2) : BothH w0 w2 B2 gx gy room s F G := ⟨h.m.on hb, h.r.on hb, h.off, h.lo, below2 h.bel hb (Nat.le_refl _)⟩
theorem BothH.mid (h : BothH w0 w B2 gx gy room s F G) (ht : Turn F F' w w1) : RHe w1 B2 gy room s G := h.r.kept (ht.kept h.off h.r.foot) ht.size
theorem BothH.bel1 (h : BothH w0 w B2 gx gy room s F G) (ht : Turn F F' w w1) : Below w0.heap.size w0 w1 := ht.below h.bel h.m.foot h.bel.size
theorem BothH.bel2 (h : BothH w0 w B2 gx gy room s F G) (ht : Turn F F' w w1) (ht2 : Turn G G' w1 w2) : Below w0.heap.size w0 w2 := ht2.below (h.bel1 ht) ((h.mid ht).foot.down h.lo) (Nat.le_trans h.bel.size ht.size)
theorem BothH.step (h : BothH w0 w B2 gx gy room s F G) (ht : Turn F F' w w1) (hm : He w1 w0.heap.size gx room s' F') (ht2 : Turn G G' w1 w2) (hr : RHe w2 B2 gy room s' G') : BothH w0 w2 B2 gx gy room s' F' G' := by
  have o1 : Off F' G := ht.off h.off h.r.foot
  have r1 := h.mid ht
  have o2 : Off G' F' := ht2.off o1.symm hm.foot
  exact ⟨hm.kept (ht2.kept o1.symm hm.foot) ht2.size, hr, o2.symm, h.lo, ht2.below (h.bel1 ht) (r1.foot.down h.lo) (Nat.le_trans h.bel.size ht.size)⟩
theorem BothH.own {v : Value} {n : Nat} {xs : List Value} (h : BothH w0 w B2 gx gy room s F G) (ho : w1.ownsRow w.heap.size 5 1 v n xs) (ht2 : Turn G G' w1 w2) : w2.ownsRow w.heap.size 5 1 v n xs :=
  own_keep ho fun k hk => ht2.block k (own_block_lt ho hk).2 fun hg => by have := (h.r.foot k hg).2; have := (own_block_lt ho hk).1; omega
/-- packets that the first has told are there behind the second's turn. -/
theorem BothH.prbs {A : Option Addr} {ts : List Prb} (h : BothH w0 w B2 gx gy room s F G) (htk : Prbs (fun k => w.heap.size ≤ k ∧ ¬ F' k) w1 A ts) (ht2 : Turn G G' w1 w2) : Prbs (fun k => w.heap.size ≤ k ∧ ¬ F' k) w2 A ts :=
  htk.kept (fun b hb hl => ht2.block b hl (fun hg => by have := (h.r.foot b hg).2; omega)) ht2.size
end
set_option maxRecDepth 100000 in
set_option maxHeartbeats 4000000 in
theorem alike21 {w0 w : World} {B2 gx gy room : Nat} {s : Hst} {F G : Nat → Prop} (h : BothH w0 w B2 gx gy room s F G) :
    Calls Try.prog 41 #[.pointer (some ⟨gx, 0, none⟩), .pointer (some ⟨gy, 0, none⟩)] w fun e w' => e = .returned (.bool true) ∧ Below w.heap.size w w' := by
  have HS := hide (hx_state h.m)
  have HM := hide h.m
  obtain ⟨rq, rl, rt, Gs, hr⟩ := h.r
  have HR := hide hr
  have hsm := hr.q.2.2.2.1
  have hfew : s.q.length ≤ 16 := hr.few
  have n1 : ((s.ent : Int) == (s.ent : Int)) = true := by simp
  have n2 : ((s.ret : Int) == (s.ret : Int)) = true := by simp
  have n3 : ((s.led.out : Int) == (s.led.out : Int)) = true := by simp
  have n4 : ((s.led.mark : Int) == (s.led.mark : Int)) = true := by simp
  have n6 : (s.led.spent == s.led.spent) = true := by simp
  have HSM := hide (fun m hm => Nat.le_trans (hsm m hm) (show 64 ≤ 9223372036854775807 by decide))
  clear h hr hsm
  go_enter Try.func41, Try.ntmps41
  go_wp2_with fail
  refine HS.out.mono ?_; rintro e w5 ⟨rfl, hb5⟩
  obtain ⟨w6, hw6⟩ : ∃ w6, w6 = w5.alloc (.cells #[.int .i64 (s.ent : Nat), .int .i64 (s.ret : Nat), .int .u64 (s.led.out : Int), .int .u64 (s.led.mark : Int), .bool s.led.spent] 61) := ⟨_, rfl⟩
  have HX6 : Hid (Blk w6 w5.heap.size 61 [.int .i64 (s.ent : Nat), .int .i64 (s.ret : Nat), .int .u64 (s.led.out : Int), .int .u64 (s.led.mark : Int), .bool s.led.spent]) := by rw [hw6]; exact Blk.new w5 _ _
  have hb56 : Below w5.heap.size w5 w6 := by rw [hw6]; exact (Below.refl _ _).alloc (Nat.le_refl _) _
  have HB6 := hide (below2 hb5 hb56 (Nat.le_refl _))
  have hr6 := (HR.out.on hb5).on hb56
  have HKP := hide (he_kept (((HM.out.on hb5).on hb56).on (Below.refl _ _).drew))
  obtain ⟨_, _, _, _, V, cV, vs, hbk, hov, _, htx, _⟩ := hr6.q
  have HOB := hide hr6.ob.blk
  have HLB := hide (show Blk w6 rl _ _ from hr6.l)
  have HBK := hide hbk
  have HRV := hide (own_rd hov)
  have HTX := hide htx
  have HW6 := hide hw6
  have HCY := hide (fun W (hb : Below w6.heap.size w6 W) => (show ((W.cell? ⟨w5.heap.size, 0, none⟩ = some (.int .i64 (s.ent : Nat)) ∧ W.cell? ⟨w5.heap.size, 1, none⟩ = some (.int .i64 (s.ret : Nat)) ∧ W.cell? ⟨w5.heap.size, 2, none⟩ = some (.int .u64 (s.led.out : Int)) ∧ W.cell? ⟨w5.heap.size, 3, none⟩ = some (.int .u64 (s.led.mark : Int)) ∧ W.cell? ⟨w5.heap.size, 4, none⟩ = some (.bool s.led.spent)) ∧
      (W.cell? ⟨gy, 0, none⟩ = some (.pointer (some ⟨rq, 0, none⟩)) ∧ W.cell? ⟨gy, 1, none⟩ = some (.pointer (some ⟨rl, 0, none⟩)) ∧ W.cell? ⟨gy, 3, none⟩ = some (.int .i64 (s.ent : Nat)) ∧ W.cell? ⟨gy, 4, none⟩ = some (.int .i64 (s.ret : Nat))) ∧
      (W.cell? ⟨rl, 0, none⟩ = some (.int .u64 (s.led.out : Int)) ∧ W.cell? ⟨rl, 1, none⟩ = some (.int .u64 (s.led.mark : Int)) ∧ W.cell? ⟨rl, 2, none⟩ = some (.bool s.led.spent)) ∧ W.cell? ⟨rq, 1, none⟩ = some (.slice V s.q.length cV)) from
    ⟨⟨(HX6.out.on hb).cell (i := 0) rfl, (HX6.out.on hb).cell (i := 1) rfl, (HX6.out.on hb).cell (i := 2) rfl, (HX6.out.on hb).cell (i := 3) rfl, (HX6.out.on hb).cell (i := 4) rfl⟩, ⟨(HOB.out.on hb).cell (i := 0) rfl, (HOB.out.on hb).cell (i := 1) rfl, (HOB.out.on hb).cell (i := 3) rfl, (HOB.out.on hb).cell (i := 4) rfl⟩, ⟨(HLB.out.on hb).cell (i := 0) rfl, (HLB.out.on hb).cell (i := 1) rfl, (HLB.out.on hb).cell (i := 2) rfl⟩, (HBK.out.on hb).cell (i := 1) rfl⟩))
  clear hb5 hb56 hw6 hr6 HS hbk hov htx
  go_wp2
  rw [← HW6.out]
  simp only [List.append_eq, List.cons_append, List.nil_append]
  go_region_held3 (fun W => (W.cell? ⟨w5.heap.size, 0, none⟩ = some (.int .i64 (s.ent : Nat)) ∧ W.cell? ⟨w5.heap.size, 1, none⟩ = some (.int .i64 (s.ret : Nat)) ∧ W.cell? ⟨w5.heap.size, 2, none⟩ = some (.int .u64 (s.led.out : Int)) ∧ W.cell? ⟨w5.heap.size, 3, none⟩ = some (.int .u64 (s.led.mark : Int)) ∧ W.cell? ⟨w5.heap.size, 4, none⟩ = some (.bool s.led.spent)) ∧
      (W.cell? ⟨gy, 0, none⟩ = some (.pointer (some ⟨rq, 0, none⟩)) ∧ W.cell? ⟨gy, 1, none⟩ = some (.pointer (some ⟨rl, 0, none⟩)) ∧ W.cell? ⟨gy, 3, none⟩ = some (.int .i64 (s.ent : Nat)) ∧ W.cell? ⟨gy, 4, none⟩ = some (.int .i64 (s.ret : Nat))) ∧
      (W.cell? ⟨rl, 0, none⟩ = some (.int .u64 (s.led.out : Int)) ∧ W.cell? ⟨rl, 1, none⟩ = some (.int .u64 (s.led.mark : Int)) ∧ W.cell? ⟨rl, 2, none⟩ = some (.bool s.led.spent)) ∧ W.cell? ⟨rq, 1, none⟩ = some (.slice V s.q.length cV)) (first
      | exact HCY.out _ (below2 hb67 hb8 (Nat.le_refl _))
      | exact HCY.out _ hb67
      | exact HCY.out _ (Below.refl _ _).drew)
    ((first
      | (go_at_call 42; (with_reducible refine HKP.out.mono ?_); rintro e w7 ⟨A7, c7, vs7, rfl, ho7, ht7, hb7⟩; have hb67 := below2 (Below.refl w6.heap.size w6).drew hb7 (Nat.le_refl _))
      | (go_at_call 85; (with_reducible refine (sameAll_eqB21 (own_rd ho7) (HRV.out.on hb67) ht7.txs (HTX.out.on hb67) (by omega) HSM.out).mono ?_); rintro e w8 ⟨rfl, hb8⟩)))
  have HZ := hide (below2 HB6.out (below2 hb67 hb8 (Nat.le_refl _)) (Nat.le_refl _))
  clear ho7 ht7 hb7 hb8 hb67
  go_wp2
  go_ret
  exact ⟨rfl, HZ.out⟩
end Go.Proofs.Ytnbhgeodbpelgaa
