/- Layer 21's hearer: Receive, State. No conditions. -/
import Derived.Test.YtnbhgeodbpelgaaHeC
namespace Go.Proofs.Ytnbhgeodbpelgaa
open Go.RowKit
set_option linter.unusedVariables false
attribute [local go_sem ↓] Go.wp_at_zero Go.wp_at_succ

/-- what Receive makes. -/
def recvHS (room : Nat) (s : Hst) : Hst := match s.q with | [] => s | _ :: ms => enterS room { s with q := ms, ret := s.ret + 1 }
section
variable {w w' : World} {B gx gq gl gt room : Nat} {s : Hst} {F : Nat → Prop} {Fs : Nat → Nat → Prop}
/-- the queue has turned, in its own blocks. -/
theorem HeAt.queS {ms : List (List Nat)} (h : HeAt w B gx gq gl gt room s F Fs) (hq : Qu w' B gq room ms (Fs 0)) (ht : Turn (Fs 0) (Fs 0) w w') : HeAt w' B gx gq gl gt room { s with q := ms } F Fs ∧ Turn F F w w' := by
  obtain ⟨p1, p2, p3⟩ := h.ob.put (p := 0) (by omega) ht hq.1
  have e1 : (fun k => F k ∨ Fs 0 k) = F := funext fun k => propext ⟨fun h2 => h2.elim id (fun h3 => (h.ob.sub 0 (by omega) k h3).1), .inl⟩
  have e2 : (fun i => if i = 0 then Fs 0 else Fs i) = Fs := funext fun i => by by_cases e : i = 0 <;> simp [e]
  rw [e1] at p1 p2
  rw [e2] at p1
  exact ⟨⟨p1, hq, h.l.kept (p3 1 (by omega) (by omega) gl h.lf), h.lf, h.t.kept (p3 2 (by omega) (by omega)) ht.size, h.ok⟩, p2⟩
def HRecR (w : World) (B gx room : Nat) (s : Hst) (F : Nat → Prop) (e : Ending) (w' : World) : Prop :=
  ∃ A c F', e = .returned (.tuple #[.slice A (s.q.headD []).length c, .bool (decide (0 < s.q.length))]) ∧ w'.ownsRow w.heap.size 5 1 (.slice A (s.q.headD []).length c) (s.q.headD []).length (u8s (s.q.headD [])) ∧
    (∀ k, (Value.slice A (s.q.headD []).length c).ownBlock = some k → ¬ F' k) ∧ He w' B gx room (recvHS room s) F' ∧ Turn F F' w w'
set_option maxHeartbeats 1000000 in
theorem he_recv (h : HeAt w B gx gq gl gt room s F Fs) (hd : s.ent ≤ 1000000) (hr : s.ret ≤ 1000000) (hT : tot s.t ≤ 1000000) : Calls Try.prog 35 #[.pointer (some ⟨gx, 0, none⟩)] w (HRecR w B gx room s F) := by
  have HI := hide (he_is h)
  have c0 := h.cells.1
  have HA := hide h
  unfold HRecR
  cases hq : s.q with
  | nil =>
    have e1 : recvHS room s = s := by unfold recvHS; rw [hq]
    have hqq := h.q
    rw [hq] at hqq
    have HP : Hid (Calls Try.prog 83 #[.pointer (some ⟨gq, 0, none⟩)] w fun e w' => ∃ A c, e = .returned (.tuple #[.slice A 0 c, .bool false]) ∧ w'.ownsRow w.heap.size 5 1 (.slice A 0 c) 0 [] ∧ Qu w' B gq room [] (Fs 0) ∧ Turn (Fs 0) (Fs 0) w w') := pop_none hqq
    rw [e1]
    have HQ0 := hide hq
    clear h e1 hqq hq
    go_enter Try.func35, Try.ntmps35
    go_wp2_with fail
    refine HI.out.mono ?_; rintro e w' ⟨rfl, rfl⟩
    go_wp2_with fail
    refine HP.out.mono ?_; rintro e w1 ⟨A1, c1, rfl, ho1, hq1, ht1⟩
    obtain ⟨h2, t2⟩ := HA.out.queS hq1 ht1
    have hs2 : ({ s with q := [] } : Hst) = s := by have := HQ0.out; cases s; simp_all
    rw [hs2] at h2
    have H2 := hide h2
    have T2 := hide t2
    have HO1 := hide ho1
    have HN1 : Hid (∀ k, (Value.slice A1 0 c1).ownBlock = some k → ¬ F k) := fun k hk hf => by have := (HA.out.ob.foot k hf).2; have := (own_block_lt ho1 hk).1; omega
    clear ho1 hq1 ht1 h2 t2 hs2 HP
    go_wp2
    go_ret2
    exact ⟨A1, c1, F, rfl, HO1.out, HN1.out, ⟨_, _, _, _, H2.out⟩, T2.out⟩
  | cons m ms =>
    have e1 : recvHS room s = enterS room { s with q := ms, ret := s.ret + 1 } := by unfold recvHS; rw [hq]
    have hqq := h.q
    rw [hq] at hqq
    have HP := hide (que_pop1 hqq)
    rw [e1]
    have HQ := hide hq
    clear h e1 hqq hq
    go_enter Try.func35, Try.ntmps35
    go_wp2_with fail
    refine HI.out.mono ?_; rintro e w' ⟨rfl, rfl⟩
    go_wp2_with fail
    refine HP.out.mono ?_; rintro e w1 ⟨A1, c1, rfl, ho1, hq1, ht1⟩
    obtain ⟨h2, t2⟩ := HA.out.queS hq1 ht1
    have x4 : w1.cell? ⟨gx, 4, none⟩ = some (.int .i64 (s.ret : Nat)) := h2.cells.2.2.2.2
    have f4 := h2.ob.blk.free 4
    obtain ⟨h3, t3⟩ := h2.setRet (s.ret + 1)
    obtain ⟨w3, hw3⟩ : ∃ w3, w3 = w1.setCell ⟨gx, 4, none⟩ (.int .i64 ((s.ret + 1 : Nat) : Int)) := ⟨_, rfl⟩
    rw [← hw3] at h3 t3
    have hw3b : w1.setCell ⟨gx, 4, none⟩ (.int .i64 ((s.ret : Int) + 1)) = w3 := by rw [hw3]; rfl
    have hnF : ∀ k, (Value.slice A1 m.length c1).ownBlock = some k → ¬ F k := fun k hk hf => by have := (HA.out.ob.foot k hf).2; have := (own_block_lt ho1 hk).1; omega
    have ho3 : w3.ownsRow w.heap.size 5 1 (.slice A1 m.length c1) m.length (u8s m) := own_keep ho1 (fun k hk => t3.block k (own_block_lt ho1 hk).2 (hnF k hk))
    have HNF := hide hnF
    have HO3 := hide ho3
    have HEN := hide (he_enter h3 hd hT)
    have T3 := hide (t2.trans t3)
    have HW3 := hide hw3b
    unfold EnterR at HEN
    clear ho1 hq1 ht1 h2 t2 h3 t3 hw3 hw3b hnF ho3 HP
    go_upto_region 6 with (fail)
    rw [HW3.out]
    clear x4 f4
    go_wp2_with fail
    refine HEN.out.mono ?_; rintro e w8 ⟨rfl, F8, Fs8, h8, t8⟩
    have H8 := hide h8
    have T8 := hide (T3.out.trans t8)
    have HO8 := hide (own_keep HO3.out (fun k hk => t8.block k (own_block_lt HO3.out hk).2 (HNF.out k hk)))
    have HN8 : Hid (∀ k, (Value.slice A1 m.length c1).ownBlock = some k → ¬ F8 k) := fun k hk hf => (t8.new k hf).elim (HNF.out k hk) (fun h9 => by have := (own_block_lt HO3.out hk).2; omega)
    clear h8 t8 HEN
    go_wp2
    go_ret2
    exact ⟨A1, c1, F8, rfl, HO8.out, HN8.out, ⟨_, _, _, _, H8.out⟩, T8.out⟩
set_option maxHeartbeats 2000000 in
theorem he_state (h : HeAt w B gx gq gl gt room s F Fs) : Calls Try.prog 34 #[.pointer (some ⟨gx, 0, none⟩)] w fun e w' => e = .returned (.agg #[.int .i64 (s.ent : Nat), .int .i64 (s.ret : Nat), .int .u64 (s.led.out : Int), .int .u64 (s.led.mark : Int), .bool s.led.spent]) ∧ Below w.heap.size w w' := by
  have HW := hide (fun o => h.on ((Below.refl w.heap.size w).alloc (Nat.le_refl _) o))
  have HI := hide (fun o => he_is (HW.out o))
  have HBA := hide (fun o => (Below.refl w.heap.size w).alloc (Nat.le_refl _) o)
  obtain ⟨w1, hw1⟩ : ∃ w1, w1 = w.alloc (.cells #[.int .i64 0, .int .i64 0, .int .u64 0, .int .u64 0, .bool false] 61) := ⟨_, rfl⟩
  have HX : Hid (Blk w1 w.heap.size 61 [.int .i64 0, .int .i64 0, .int .u64 0, .int .u64 0, .bool false]) := by rw [hw1]; exact Blk.new w _ _
  have HM : Hid (HeAt w1 B gx gq gl gt room s F Fs) := by rw [hw1]; exact HW.out _
  have HB1 : Hid (Below w.heap.size w w1) := by rw [hw1]; exact HBA.out _
  have HW1 := hide hw1
  have HO := hide (led_out w1.drew gl s.led (HM.out.on (Below.refl _ _).drew).l)
  have HK := hide (led_marked w1.drew gl s.led (HM.out.on (Below.refl _ _).drew).l)
  have HS := hide (led_spent w1.drew gl s.led (HM.out.on (Below.refl _ _).drew).l)
  obtain ⟨d0, d1, d2, d3, d4⟩ := HM.out.cells
  have x0 := HX.out.cell (i := 0) rfl
  have x1 := HX.out.cell (i := 1) rfl
  have x2 := HX.out.cell (i := 2) rfl
  have x3 := HX.out.cell (i := 3) rfl
  have x4 := HX.out.cell (i := 4) rfl
  have f0 := HX.out.free 0
  have f1 := HX.out.free 1
  have f2 := HX.out.free 2
  have f3 := HX.out.free 3
  have f4 := HX.out.free 4
  have hxlt : gx < w.heap.size := h.ob.blk.lt
  have hne : w.heap.size ≠ gx := by omega
  clear h hw1
  go_enter Try.func34, Try.ntmps34
  go_wp2_with fail
  refine (HI.out _).mono ?_; rintro e w' ⟨rfl, rfl⟩
  go_upto_region 3 with (fail)
  rw [← HW1.out]
  go_region_held3 (fun W => W.cell? ⟨gx, 1, none⟩ = some (.pointer (some ⟨gl, 0, none⟩)) ∧ W.cell? ⟨gx, 3, none⟩ = some (.int .i64 (s.ent : Nat)) ∧ W.cell? ⟨gx, 4, none⟩ = some (.int .i64 (s.ret : Nat))) (go_keep)
   ((first
    | (go_at_call 77; (with_reducible refine HO.out.mono ?_); rintro e w4 ⟨rfl, rfl⟩)
    | (go_at_call 78; (with_reducible refine HK.out.mono ?_); rintro e w4 ⟨rfl, rfl⟩)
    | (go_at_call 79; (with_reducible refine HS.out.mono ?_); rintro e w4 ⟨rfl, rfl⟩)))
  have hx6 := (((((HX.out.set 0 (.int .i64 (s.ent : Nat))).set 1 (.int .i64 (s.ret : Nat))).set 2 (.int .u64 (s.led.out : Int))).set 3 (.int .u64 (s.led.mark : Int))).set 4 (.bool s.led.spent))
  have y0 := hx6.cell (i := 0) (v := .int .i64 (s.ent : Nat)) rfl
  have y1 := hx6.cell (i := 1) (v := .int .i64 (s.ret : Nat)) rfl
  have y2 := hx6.cell (i := 2) (v := .int .u64 (s.led.out : Int)) rfl
  have y3 := hx6.cell (i := 3) (v := .int .u64 (s.led.mark : Int)) rfl
  have y4 := hx6.cell (i := 4) (v := .bool s.led.spent) rfl
  have HBB := hide ((((((HB1.out.setCell (p := ⟨w.heap.size, 0, none⟩) (Nat.le_refl _) (.int .i64 (s.ent : Nat))).setCell (p := ⟨w.heap.size, 1, none⟩) (Nat.le_refl _) (.int .i64 (s.ret : Nat))).setCell (p := ⟨w.heap.size, 2, none⟩) (Nat.le_refl _) (.int .u64 (s.led.out : Int))).setCell (p := ⟨w.heap.size, 3, none⟩) (Nat.le_refl _) (.int .u64 (s.led.mark : Int))).setCell (p := ⟨w.heap.size, 4, none⟩) (Nat.le_refl _) (.bool s.led.spent))).drew
  clear x0 x1 x2 x3 x4 f0 f1 f2 f3 f4 hx6
  go_wp2
  (try simp only [Exit.inBlock, Exit.then])
  refine bodyPost_ret (v := .agg #[.int .i64 (s.ent : Nat), .int .i64 (s.ret : Nat), .int .u64 (s.led.out : Int), .int .u64 (s.led.mark : Int), .bool s.led.spent]) (by simp [results, Try.results34, go_sem, y0, y1, y2, y3, y4]) rfl ?_
  exact ⟨rfl, HBB.out⟩
end
end Go.Proofs.Ytnbhgeodbpelgaa
