/- Layer 21's hearer: Take. No conditions. -/
import Derived.Test.YtnbhgeodbpelgaaHeB
import Derived.Deep.RegionLaw
import Derived.Deep.Cut
namespace Go.Proofs.Ytnbhgeodbpelgaa
open Go.RowKit
set_option linter.unusedVariables false
attribute [local go_sem ↓] Go.wp_at_zero Go.wp_at_succ

def heardH (s : Hst) : Hst := { s with led := s.led.hear }
/-- what a packet makes. -/
def takeHS (room : Nat) (s : Hst) (k lb : Int) (m : List Nat) : Hst :=
  if k = 2 then heardH s else if k = 3 then (if s.led.hearB && (lb == ((s.ent % 2 : Nat) : Int)) then enterS room { heardH s with t := addT s.t lb m } else heardH s) else s
def takeHT (s : Hst) (k : Int) : List Prb := if k = 1 then [(4, 1 - ((s.ent % 2 : Nat) : Int), [])] else []
/-- what is read stays while an object that it is off turns. -/
theorem rd_turn {w w' : World} {A : Option Addr} {xs : List Value} {F F' : Nat → Prop} (h : Rd w.heap.size w A xs) (hn : 0 < xs.length → ∀ b o s, A = some ⟨b, o, s⟩ → ¬ F b) (ht : Turn F F' w w') : Rd w'.heap.size w' A xs := fun hp => by
  obtain ⟨b, o, rfl, hb, hc⟩ := h hp
  exact ⟨b, o, rfl, Nat.lt_of_lt_of_le hb ht.size, fun j u hu => (World.cell?_of_block (ht.block b hb (hn hp b o none rfl))).trans (hc j u hu)⟩
/-- the place behind the switch: what is told of the world there. -/
structure Here (w wx : World) (B gx gq gl gt room : Nat) (s : Hst) (F0 F : Nat → Prop) (Fs : Nat → Nat → Prop) (k lb : Int) (u : Value) : Prop where
  m : HeAt wx B gx gq gl gt room s F Fs
  x : Blk wx w.heap.size 36 [.int .i64 k, .int .i64 lb, u]
  tu : Turn F0 F w wx
  n : ¬ F w.heap.size
section
variable {w wx w' : World} {B gx gq gl gt room : Nat} {s : Hst} {F F0 : Nat → Prop} {Fs : Nat → Nat → Prop} {k lb lb' : Int} {u : Value}
theorem HeAt.here (h : HeAt w B gx gq gl gt room s F Fs) (k lb : Int) (u : Value) : Here w (w.alloc (.cells #[.int .i64 k, .int .i64 lb, u] 36)) B gx gq gl gt room s F F Fs k lb u := by
  have hb : Below w.heap.size w (w.alloc (.cells #[.int .i64 k, .int .i64 lb, u] 36)) := (Below.refl _ _).alloc (Nat.le_refl _) _
  exact ⟨h.on hb, Blk.new w _ _, Turn.of_below hb, fun hf => by have := (h.ob.foot _ hf).2; omega⟩
theorem Here.drew (h : Here w wx B gx gq gl gt room s F0 F Fs k lb u) : Here w wx.drew B gx gq gl gt room s F0 F Fs k lb u := ⟨h.m.on (Below.refl _ _).drew, h.x.drew, h.tu.drew, h.n⟩
theorem Here.ne (h : Here w wx B gx gq gl gt room s F0 F Fs k lb u) : w.heap.size ≠ gl := fun e => h.n (by rw [e]; exact (h.m.ob.sub 1 (by omega) gl h.m.lf).1)
theorem Here.label (h : Here w wx B gx gq gl gt room s F0 F Fs k lb u) (lb' : Int) : Here w (wx.setCell ⟨w.heap.size, 1, none⟩ (.int .i64 lb')) B gx gq gl gt room s F0 F Fs k lb' u := by
  have hfar : ∀ j, j ≠ w.heap.size → (wx.setCell ⟨w.heap.size, 1, none⟩ (.int .i64 lb')).heap[j]? = wx.heap[j]? := fun j hj => Below.heap_setCell wx ⟨w.heap.size, 1, none⟩ _ j hj
  have hs : (wx.setCell ⟨w.heap.size, 1, none⟩ (.int .i64 lb')).heap.size = wx.heap.size := by simp [World.setCell]
  refine ⟨h.m.kept (fun j hj => hfar j (fun e => h.n (by rw [← e]; exact hj))) (by omega), h.x.set 1 _, ⟨h.tu.os, h.tu.tape, h.tu.output, by rw [hs]; exact h.tu.size, fun j hj hn => (hfar j (by omega)).trans (h.tu.block j hj hn), h.tu.new⟩, h.n⟩
/-- .. behind Hear. -/
theorem Here.hear {w4 : World} (h : Here w wx B gx gq gl gt room s F0 F Fs k lb u) (hl : LedAt w4 gl s.led.hear) (hg : wx.grownBy w4 (some gl)) : ∃ F2 Fs2, Here w w4 B gx gq gl gt room (heardH s) F0 F2 Fs2 k lb u := by
  obtain ⟨F2, Fs2, h2, t2⟩ := h.m.led hl hg (Led.ok_hear h.m.ok)
  exact ⟨F2, Fs2, h2, h.x.kept (hg.block _ h.x.lt (fun e => h.ne (Option.some.inj e))), h.tu.trans t2, fun hf => (t2.new _ hf).elim h.n (fun h3 => by have := h.x.lt; omega)⟩
theorem Here.cells (h : Here w wx B gx gq gl gt room s F0 F Fs k lb u) : (wx.cell? ⟨gx, 1, none⟩ = some (.pointer (some ⟨gl, 0, none⟩)) ∧ wx.cell? ⟨gx, 2, none⟩ = some (.pointer (some ⟨gt, 0, none⟩))) ∧ wx.cell? ⟨w.heap.size, 1, none⟩ = some (.int .i64 lb) ∧ wx.cell? ⟨w.heap.size, 2, none⟩ = some u :=
  ⟨⟨h.m.cells.2.1, h.m.cells.2.2.1⟩, h.x.cell (i := 1) rfl, h.x.cell (i := 2) rfl⟩
set_option maxRecDepth 100000 in
set_option maxHeartbeats 8000000 in
theorem he_take (h : HeAt w B gx gq gl gt room s F Fs) (hd : s.ent ≤ 1000000) (hT : tot s.t ≤ 900000) (k lb : Int) (A : Option Addr) (c : Nat) (m : List Nat) (hA : Rd w.heap.size w A (u8s m)) (hAF : 0 < (u8s m).length → ∀ b o s', A = some ⟨b, o, s'⟩ → ¬ F b) (hm : Byt m) (hml : s.led.hearB = true → m.length ≤ 1000000) :
    Calls Try.prog 33 #[.pointer (some ⟨gx, 0, none⟩), .agg #[.int .i64 k, .int .i64 lb, .slice A m.length c]] w (HTellR w B gx room (takeHS room s k lb m) F (takeHT s k)) := by
  obtain ⟨w1, hw1⟩ : ∃ w1, w1 = w.alloc (.cells #[.int .i64 k, .int .i64 lb, .slice A m.length c] 36) := ⟨_, rfl⟩
  have HE1 : Hid (Here w w1 B gx gq gl gt room s F F Fs k lb (.slice A m.length c)) := by rw [hw1]; exact h.here k lb _
  have HI := hide (he_is HE1.out.m)
  have HW1 := hide hw1
  have HRD := hide (And.intro hA hAF)
  have HBY := hide (And.intro hm hml)
  have x0 : w1.cell? ⟨w.heap.size, 0, none⟩ = some (.int .i64 k) := HE1.out.x.cell (i := 0) rfl
  unfold HTellR
  clear h hw1 hA hAF hm hml
  by_cases hk1 : k = 1
  · subst hk1
    have e1 : takeHS room s 1 lb m = s := by unfold takeHS; rw [if_neg (by decide), if_neg (by decide)]
    have e2 : takeHT s 1 = [(4, 1 - ((s.ent % 2 : Nat) : Int), [])] := by unfold takeHT; rw [if_pos rfl]
    rw [e1, e2]
    have HLB := hide (he_label HE1.out.m hd)
    obtain ⟨lv, hlv⟩ : ∃ lv : Int, lv = ((s.ent % 2 : Nat) : Int) := ⟨_, rfl⟩
    have hlv2 : lv = 0 ∨ lv = 1 := by omega
    rw [← hlv] at HLB
    rw [← hlv]
    clear e1 e2 hlv
    go_enter Try.func33, Try.ntmps33
    go_upto_region 1 with (fail)
    rw [← HW1.out]
    go_wp2_with fail
    refine HI.out.mono ?_; rintro e w' ⟨rfl, rfl⟩
    rcases hlv2 with rfl | rfl
    all_goals
      go_wp2_with fail
      refine HLB.out.mono ?_; rintro e w' ⟨rfl, rfl⟩
      go_wp2
      go_ret
      exact ⟨_, _, F, rfl, prbs_one w1 4 _ none 0 [] 36 ⟨HE1.out.tu.size, fun hf => by have := (HE1.out.m.ob.foot _ hf).2; omega⟩ (Rd.nil _ _ _) (by simp) (fun h => by cases h), He.on ⟨_, _, _, _, HE1.out.m⟩ ((Below.refl _ _).alloc (Nat.le_refl _) _), HE1.out.tu.alloc _⟩
  · have e2 : takeHT s k = [] := by unfold takeHT; rw [if_neg hk1]
    rw [e2]
    have b1 : (k == 1) = false := by rw [beq_eq_false_iff_ne]; exact hk1
    clear e2 hk1
    by_cases hk2 : k = 2
    · subst hk2
      have e1 : takeHS room s 2 lb m = heardH s := by unfold takeHS; rw [if_pos rfl]
      rw [e1]
      have f1 := HE1.out.x.free 1
      have y1 := HE1.out.x.cell (i := 1) rfl
      obtain ⟨wx, hwx⟩ : ∃ wx, wx = w1.setCell ⟨w.heap.size, 1, none⟩ (.int .i64 (-1)) := ⟨_, rfl⟩
      have HEX : Hid (Here w wx B gx gq gl gt room s F F Fs 2 (-1) (.slice A m.length c)) := by rw [hwx]; exact HE1.out.label (-1)
      have HWX := hide hwx
      have HHE := hide (led_hear _ gl s.led HEX.out.drew.m.l HEX.out.drew.m.ok)
      have HLB := hide (fun (W : World) (s' : Hst) (F' : Nat → Prop) (Fs' : Nat → Nat → Prop) (h : HeAt W B gx gq gl gt room s' F' Fs') (e : s'.ent = s.ent) => he_label h (by rw [e]; exact hd))
      have m0 := HEX.out.cells
      clear e1 hwx
      have b2 : (((-1 : Int)) == ((s.ent % 2 : Nat) : Int)) = false := by rw [beq_eq_false_iff_ne]; omega
      obtain ⟨lv, hlv⟩ : ∃ lv : Int, lv = ((s.ent % 2 : Nat) : Int) := ⟨_, rfl⟩
      rw [← hlv] at b2
      have HLV := hide hlv
      clear hlv
      cases hh : s.led.hearB with
      | false =>
        rw [hh] at HHE
        clear hh
        go_enter Try.func33, Try.ntmps33
        go_upto_region 1 with (fail)
        rw [← HW1.out]
        go_wp2_with fail
        refine HI.out.mono ?_; rintro e w' ⟨rfl, rfl⟩
        go_upto_region 9 with (fail)
        rw [← HWX.out]
        obtain ⟨⟨m1, m2⟩, mx, my⟩ := m0
        clear x0 f1 y1
        first | (go_region_law
         ((first
          | (go_simp; go_at_call 70; (with_reducible refine HHE.out.mono ?_); rintro e w4 ⟨rfl, hl4, hg4⟩; obtain ⟨F2, Fs2, h2⟩ := HEX.out.drew.hear hl4 hg4; obtain ⟨⟨n1, n2⟩, nx, ny⟩ := h2.cells)
          | (go_simp; go_at_call 81; (with_reducible refine (HLB.out _ _ _ _ h2.m rfl).mono ?_); rintro e w5 ⟨rfl, rfl⟩)))) | fail
        all_goals
          have H2 := hide h2
          clear h2 hl4 hg4 n1 n2 nx ny
          go_wp2
          go_ret
          first | exact ⟨none, 0, F2, rfl, Prbs.nil _ _ _, ⟨_, _, _, _, H2.out.m⟩, H2.out.tu⟩ | exact ⟨none, ⟨0, rfl⟩, F2, Prbs.nil _ _ _, ⟨_, _, _, _, H2.out.m⟩, H2.out.tu⟩
      | true =>
        rw [hh] at HHE
        clear hh
        go_enter Try.func33, Try.ntmps33
        go_upto_region 1 with (fail)
        rw [← HW1.out]
        go_wp2_with fail
        refine HI.out.mono ?_; rintro e w' ⟨rfl, rfl⟩
        go_upto_region 9 with (fail)
        rw [← HWX.out]
        clear x0 f1 y1
        go_region_held3 (fun W => (W.cell? ⟨gx, 1, none⟩ = some (.pointer (some ⟨gl, 0, none⟩)) ∧ W.cell? ⟨gx, 2, none⟩ = some (.pointer (some ⟨gt, 0, none⟩))) ∧ W.cell? ⟨w.heap.size, 1, none⟩ = some (.int .i64 (-1)) ∧ W.cell? ⟨w.heap.size, 2, none⟩ = some (.slice A m.length c)) (first
            | exact hn
            | exact m0
            | go_keep)
          ((first
            | (go_at_call 70; (with_reducible refine HHE.out.mono ?_); rintro e w4 ⟨rfl, hl4, hg4⟩; obtain ⟨F2, Fs2, h2⟩ := HEX.out.drew.hear hl4 hg4; have hn := h2.cells)
            | (go_at_call 81; (with_reducible refine (HLB.out _ _ _ _ h2.m rfl).mono ?_); rintro e w5 ⟨rfl, rfl⟩; rw [show (((heardH s).ent % 2 : Nat) : Int) = lv from HLV.out.symm])))
        all_goals
          have H2 := hide h2
          clear h2 hl4 hg4 hn
          go_wp2
          go_ret
          first | exact ⟨none, 0, F2, rfl, Prbs.nil _ _ _, ⟨_, _, _, _, H2.out.m⟩, H2.out.tu⟩ | exact ⟨none, ⟨0, rfl⟩, F2, Prbs.nil _ _ _, ⟨_, _, _, _, H2.out.m⟩, H2.out.tu⟩
    · have b2k : (k == 2) = false := by rw [beq_eq_false_iff_ne]; exact hk2
      by_cases hk3 : k = 3
      · subst hk3
        have e1 : takeHS room s 3 lb m = (if s.led.hearB && (lb == ((s.ent % 2 : Nat) : Int)) then enterS room { heardH s with t := addT s.t lb m } else heardH s) := by unfold takeHS; rw [if_neg (by decide), if_pos rfl]
        rw [e1]
        have HHE := hide (led_hear _ gl s.led HE1.out.drew.m.l HE1.out.drew.m.ok)
        have HLB := hide (fun (W : World) (s' : Hst) (F' : Nat → Prop) (Fs' : Nat → Nat → Prop) (h : HeAt W B gx gq gl gt room s' F' Fs') (e : s'.ent = s.ent) => he_label h (by rw [e]; exact hd))
        have m0 := HE1.out.cells
        obtain ⟨wx, hwx⟩ : ∃ wx, wx = w1 := ⟨_, rfl⟩
        have HEX : Hid (Here w wx B gx gq gl gt room s F F Fs 3 lb (.slice A m.length c)) := by rw [hwx]; exact HE1.out
        subst hwx
        clear e1 b2k hk2
        cases hh : s.led.hearB with
        | false =>
          rw [hh] at HHE
          rw [if_neg (by simp)]
          obtain ⟨lv, hlv⟩ : ∃ lv : Int, lv = ((s.ent % 2 : Nat) : Int) := ⟨_, rfl⟩
          have HLV := hide hlv
          clear hh hlv
          go_enter Try.func33, Try.ntmps33
          go_upto_region 1 with (fail)
          rw [← HW1.out]
          go_wp2_with fail
          refine HI.out.mono ?_; rintro e w' ⟨rfl, rfl⟩
          obtain ⟨⟨m1, m2⟩, mx, my⟩ := m0
          go_upto_region 9 with (fail)
          first | (go_region_law
           ((first
            | (go_simp; go_at_call 70; (with_reducible refine HHE.out.mono ?_); rintro e w4 ⟨rfl, hl4, hg4⟩; obtain ⟨F2, Fs2, h2⟩ := HEX.out.drew.hear hl4 hg4; obtain ⟨⟨n1, n2⟩, nx, ny⟩ := h2.cells)
            | (go_simp; go_at_call 81; (with_reducible refine (HLB.out _ _ _ _ h2.m rfl).mono ?_); rintro e w5 ⟨rfl, rfl⟩)))) | fail
          all_goals
            have H2 := hide h2
            clear h2 hl4 hg4 n1 n2 nx ny
            go_wp2
            go_ret
            first | exact ⟨none, 0, F2, rfl, Prbs.nil _ _ _, ⟨_, _, _, _, H2.out.m⟩, H2.out.tu⟩ | exact ⟨none, ⟨0, rfl⟩, F2, Prbs.nil _ _ _, ⟨_, _, _, _, H2.out.m⟩, H2.out.tu⟩
        | true =>
          rw [hh] at HHE
          have HML := hide (HBY.out.2 hh)
          clear hh
          cases hl : (lb == ((s.ent % 2 : Nat) : Int)) with
          | false =>
            rw [if_neg (by simp)]
            have b2 := hl
            obtain ⟨lv, hlv⟩ : ∃ lv : Int, lv = ((s.ent % 2 : Nat) : Int) := ⟨_, rfl⟩
            rw [← hlv] at b2
            have HLV := hide hlv
            clear hl hlv
            go_enter Try.func33, Try.ntmps33
            go_upto_region 1 with (fail)
            rw [← HW1.out]
            go_wp2_with fail
            refine HI.out.mono ?_; rintro e w' ⟨rfl, rfl⟩
            go_upto_region 9 with (fail)
            clear x0
            go_region_held3 (fun W => (W.cell? ⟨gx, 1, none⟩ = some (.pointer (some ⟨gl, 0, none⟩)) ∧ W.cell? ⟨gx, 2, none⟩ = some (.pointer (some ⟨gt, 0, none⟩))) ∧ W.cell? ⟨w.heap.size, 1, none⟩ = some (.int .i64 lb) ∧ W.cell? ⟨w.heap.size, 2, none⟩ = some (.slice A m.length c)) (first
                | exact hn
                | exact m0
                | go_keep)
              ((first
                | (go_at_call 70; (with_reducible refine HHE.out.mono ?_); rintro e w4 ⟨rfl, hl4, hg4⟩; obtain ⟨F2, Fs2, h2⟩ := HEX.out.drew.hear hl4 hg4; have hn := h2.cells)
                | (go_at_call 81; (with_reducible refine (HLB.out _ _ _ _ h2.m rfl).mono ?_); rintro e w5 ⟨rfl, rfl⟩; rw [show (((heardH s).ent % 2 : Nat) : Int) = lv from HLV.out.symm])))
            all_goals
              have H2 := hide h2
              clear h2 hl4 hg4 hn
              go_wp2
              go_ret
              first | exact ⟨none, 0, F2, rfl, Prbs.nil _ _ _, ⟨_, _, _, _, H2.out.m⟩, H2.out.tu⟩ | exact ⟨none, ⟨0, rfl⟩, F2, Prbs.nil _ _ _, ⟨_, _, _, _, H2.out.m⟩, H2.out.tu⟩
          | true =>
            rw [if_pos (by simp)]
            have hlb : lb = ((s.ent % 2 : Nat) : Int) := by simpa using hl
            have hlf : Fit lb := by rw [hlb]; unfold Fit; omega
            have HLF := hide hlf
            have b2 : (lb == lb) = true := by simp
            have HLV := hide hlb
            clear hl hlb hlf
            go_enter Try.func33, Try.ntmps33
            go_upto_region 1 with (fail)
            rw [← HW1.out]
            go_wp2_with fail
            refine HI.out.mono ?_; rintro e w' ⟨rfl, rfl⟩
            go_upto_region 9 with (fail)
            clear x0
            go_region_held3 (fun W => (W.cell? ⟨gx, 1, none⟩ = some (.pointer (some ⟨gl, 0, none⟩)) ∧ W.cell? ⟨gx, 2, none⟩ = some (.pointer (some ⟨gt, 0, none⟩))) ∧ W.cell? ⟨w.heap.size, 1, none⟩ = some (.int .i64 lb) ∧ W.cell? ⟨w.heap.size, 2, none⟩ = some (.slice A m.length c)) (first
                | exact hn
                | exact m0
                | go_keep)
              ((first
                | (go_at_call 70; (with_reducible refine HHE.out.mono ?_); rintro e w4 ⟨rfl, hl4, hg4⟩; obtain ⟨F2, Fs2, h2⟩ := HEX.out.drew.hear hl4 hg4; have hn := h2.cells)
                | (go_at_call 81; (with_reducible refine (HLB.out _ _ _ _ h2.m rfl).mono ?_); rintro e w5 ⟨rfl, rfl⟩; rw [show (((heardH s).ent % 2 : Nat) : Int) = lb from HLV.out.symm])))
            have H2 := hide h2
            have HAD := hide (ta_add h2.drew.m.t (by show tot s.t ≤ _; omega) lb HLF.out A c m (rd_turn HRD.out.1 HRD.out.2 h2.tu.drew) HBY.out.1 HML.out)
            unfold AddR at HAD
            have m5 := h2.drew.cells
            clear h2 hn hl4 hg4 HHE
            go_wp2
            go_region_held3 (fun W => W.cell? ⟨gx, 2, none⟩ = some (.pointer (some ⟨gt, 0, none⟩)) ∧ W.cell? ⟨w.heap.size, 1, none⟩ = some (.int .i64 lb) ∧ W.cell? ⟨w.heap.size, 2, none⟩ = some (.slice A m.length c)) (first
                | exact hn6
                | exact ⟨m5.1.2, m5.2⟩
                | go_keep)
              ((first
                | (go_at_call 47; (with_reducible refine HAD.out.mono ?_); rintro e w6 ⟨F6, rfl, ht6, hu6⟩; obtain ⟨F7, Fs7, h7, t7⟩ := H2.out.drew.m.tal ht6 hu6; have hn6 : (w6.cell? ⟨gx, 2, none⟩ = some (.pointer (some ⟨gt, 0, none⟩))) ∧ w6.cell? ⟨w.heap.size, 1, none⟩ = some (.int .i64 lb) ∧ w6.cell? ⟨w.heap.size, 2, none⟩ = some (.slice A m.length c) := ⟨h7.cells.2.2.1, (H2.out.drew.x.kept (t7.block _ H2.out.drew.x.lt H2.out.n)).cell (i := 1) rfl, (H2.out.drew.x.kept (t7.block _ H2.out.drew.x.lt H2.out.n)).cell (i := 2) rfl⟩)))
            have HEN := hide (he_enter h7 hd (by show tot (addT s.t lb m) ≤ _; rw [tot_add]; omega))
            have T7 := hide (H2.out.drew.tu.trans t7)
            unfold EnterR at HEN
            clear ht6 hu6 h7 t7 hn6 HAD
            go_wp2_with fail
            refine HEN.out.mono ?_; rintro e w8 ⟨rfl, F8, Fs8, h8, t8⟩
            have H8 := hide h8
            have T8 := hide (T7.out.trans t8)
            clear h8 t8 HEN
            go_wp2
            go_ret
            first | exact ⟨none, 0, F8, rfl, Prbs.nil _ _ _, ⟨_, _, _, _, H8.out⟩, T8.out⟩ | exact ⟨none, ⟨0, rfl⟩, F8, Prbs.nil _ _ _, ⟨_, _, _, _, H8.out⟩, T8.out⟩
      · have e1 : takeHS room s k lb m = s := by unfold takeHS; rw [if_neg hk2, if_neg hk3]
        rw [e1]
        have b3 : (k == 3) = false := by rw [beq_eq_false_iff_ne]; exact hk3
        clear e1 hk2 hk3
        go_enter Try.func33, Try.ntmps33
        go_upto_region 1 with (fail)
        rw [← HW1.out]
        go_wp2_with fail
        refine HI.out.mono ?_; rintro e w' ⟨rfl, rfl⟩
        go_wp2
        go_ret
        first | exact ⟨none, 0, F, rfl, Prbs.nil _ _ _, ⟨_, _, _, _, HE1.out.m⟩, HE1.out.tu⟩ | exact ⟨none, ⟨0, rfl⟩, F, Prbs.nil _ _ _, ⟨_, _, _, _, HE1.out.m⟩, HE1.out.tu⟩
end
end Go.Proofs.Ytnbhgeodbpelgaa
