/- Layer 21's reference hearer: what it is at, New, Tick. No conditions. -/
import Derived.Test.YtnbhgeodbpelgaaHeE
import Derived.Test.YtnbhgeodbpelgaaTalL
namespace Go.Proofs.Ytnbhgeodbpelgaa
open Go.RowKit
set_option linter.unusedVariables false
attribute [local go_sem ↓] Go.wp_at_zero Go.wp_at_succ

structure RHeAt (w : World) (B gx gq gl gt room : Nat) (s : Hst) (F : Nat → Prop) (Fs : Nat → Nat → Prop) : Prop where
  ob : Ob w B gx 3 128 (hC gq gl gt s) F Fs
  q : RQu w B gq room s.q (Fs 0)
  l : RLedAt w gl s.led
  lf : Fs 1 gl
  t : RTa w B gt s.t (Fs 2)
  ok : s.led.ok
def RHe (w : World) (B gx room : Nat) (s : Hst) (F : Nat → Prop) : Prop := ∃ gq gl gt Fs, RHeAt w B gx gq gl gt room s F Fs
section
variable {w w' : World} {B gx gq gl gt room : Nat} {s : Hst} {F : Nat → Prop} {Fs : Nat → Nat → Prop}
theorem RHeAt.kept (h : RHeAt w B gx gq gl gt room s F Fs) (hk : ∀ k, F k → w'.heap[k]? = w.heap[k]?) (hs : w.heap.size ≤ w'.heap.size) : RHeAt w' B gx gq gl gt room s F Fs :=
  ⟨h.ob.kept hk hs, h.q.kept (h.ob.part (i := 0) (by omega) hk) hs, Blk.kept h.l (h.ob.part (i := 1) (by omega) hk gl h.lf), h.lf, h.t.kept (h.ob.part (i := 2) (by omega) hk) hs, h.ok⟩
theorem RHe.kept (h : RHe w B gx room s F) (hk : ∀ k, F k → w'.heap[k]? = w.heap[k]?) (hs : w.heap.size ≤ w'.heap.size) : RHe w' B gx room s F := by
  obtain ⟨gq, gl, gt, Fs, h⟩ := h
  exact ⟨gq, gl, gt, Fs, h.kept hk hs⟩
theorem RHe.foot (h : RHe w B gx room s F) : Foot F B w := by obtain ⟨_, _, _, _, h⟩ := h; exact h.ob.foot
theorem RHe.on (h : RHe w B gx room s F) (hb : Below w.heap.size w w') : RHe w' B gx room s F := h.kept (below_kept hb h.foot) hb.size
theorem RHeAt.on (h : RHeAt w B gx gq gl gt room s F Fs) (hb : Below w.heap.size w w') : RHeAt w' B gx gq gl gt room s F Fs := h.kept (below_kept hb h.ob.foot) hb.size
theorem RHeAt.led {l' : Led} (h : RHeAt w B gx gq gl gt room s F Fs) (hl : RLedAt w' gl l') (hg : w.grownBy w' (some gl)) (hok : l'.ok) : ∃ F' Fs', RHeAt w' B gx gq gl gt room { s with led := l' } F' Fs' ∧ Turn F F' w w' := by
  have ht : Turn (Fs 1) (Fs 1) w w' := Turn.of_grown hg (by intro k e; cases e; exact h.lf) (fun k hk => .inl hk)
  obtain ⟨p1, p2, p3⟩ := h.ob.put (p := 1) (by omega) ht ((h.ob.fs 1 (by omega)).on ht.size)
  exact ⟨_, _, ⟨p1, h.q.kept (p3 0 (by omega) (by omega)) ht.size, hl, h.lf, h.t.kept (p3 2 (by omega) (by omega)) ht.size, hok⟩, p2⟩
theorem RHeAt.que {ms : List (List Nat)} {F1 : Nat → Prop} (h : RHeAt w B gx gq gl gt room s F Fs) (hq : RQu w' B gq room ms F1) (ht : Turn (Fs 0) F1 w w') : ∃ F' Fs', RHeAt w' B gx gq gl gt room { s with q := ms } F' Fs' ∧ Turn F F' w w' := by
  obtain ⟨p1, p2, p3⟩ := h.ob.put (p := 0) (by omega) ht hq.1
  exact ⟨_, _, ⟨p1, hq, Blk.kept h.l (p3 1 (by omega) (by omega) gl h.lf), h.lf, h.t.kept (p3 2 (by omega) (by omega)) ht.size, h.ok⟩, p2⟩
theorem RHeAt.tal {ts : List Trow} {F1 : Nat → Prop} (h : RHeAt w B gx gq gl gt room s F Fs) (hq : RTa w' B gt ts F1) (ht : Turn (Fs 2) F1 w w') : ∃ F' Fs', RHeAt w' B gx gq gl gt room { s with t := ts } F' Fs' ∧ Turn F F' w w' := by
  obtain ⟨p1, p2, p3⟩ := h.ob.put (p := 2) (by omega) ht hq.foot
  exact ⟨_, _, ⟨p1, h.q.kept (p3 0 (by omega) (by omega)) ht.size, Blk.kept h.l (p3 1 (by omega) (by omega) gl h.lf), h.lf, hq, h.ok⟩, p2⟩
/-- all that was told is let go: a new tally. -/
theorem RHeAt.fresh (h : RHeAt w B gx gq gl gt room s F Fs) : ∃ F' Fs', RHeAt ((w.alloc (.cells #[.slice none 0 0] 85)).setCell ⟨gx, 2, none⟩ (.pointer (some ⟨w.heap.size, 0, none⟩))) B gx gq gl w.heap.size room { s with t := [] } F' Fs' ∧
    Turn F F' w ((w.alloc (.cells #[.slice none 0 0] 85)).setCell ⟨gx, 2, none⟩ (.pointer (some ⟨w.heap.size, 0, none⟩))) := by
  have hB : B ≤ w.heap.size := Nat.le_trans (h.ob.foot gx h.ob.own).1 (Nat.le_of_lt (h.ob.foot gx h.ob.own).2)
  have hb : Below w.heap.size w (w.alloc (.cells #[.slice none 0 0] 85)) := (Below.refl _ _).alloc (Nat.le_refl _) _
  have hn := rta_new w hB
  have ht : Turn (Fs 2) (fun k => k = w.heap.size) w (w.alloc (.cells #[.slice none 0 0] 85)) := (Turn.of_below (F := Fs 2) hb).more (fun k hk => .inr (by have e : k = w.heap.size := hk; omega))
  obtain ⟨p1, p2, p3⟩ := h.ob.put (p := 2) (by omega) ht hn.foot
  obtain ⟨a, b, c⟩ := p1.set 2 (.pointer (some ⟨w.heap.size, 0, none⟩))
  refine ⟨_, _, ⟨a, (h.q.kept (p3 0 (by omega) (by omega)) ht.size).kept (c 0 (by omega)) b.size, Blk.kept (Blk.kept h.l (p3 1 (by omega) (by omega) gl h.lf)) (c 1 (by omega) gl h.lf), h.lf, ?_, h.ok⟩, p2.trans b⟩
  exact hn.kept (c 2 (by omega)) b.size
theorem RHeAt.setEnt (h : RHeAt w B gx gq gl gt room s F Fs) (n : Nat) : RHeAt (w.setCell ⟨gx, 3, none⟩ (.int .i64 (n : Int))) B gx gq gl gt room { s with ent := n } F Fs ∧ Turn F F w (w.setCell ⟨gx, 3, none⟩ (.int .i64 (n : Int))) := by
  obtain ⟨a, b, c⟩ := h.ob.set 3 (.int .i64 (n : Int))
  exact ⟨⟨a, h.q.kept (c 0 (by omega)) b.size, Blk.kept h.l (c 1 (by omega) gl h.lf), h.lf, h.t.kept (c 2 (by omega)) b.size, h.ok⟩, b⟩
theorem RHeAt.setRet (h : RHeAt w B gx gq gl gt room s F Fs) (n : Nat) : RHeAt (w.setCell ⟨gx, 4, none⟩ (.int .i64 (n : Int))) B gx gq gl gt room { s with ret := n } F Fs ∧ Turn F F w (w.setCell ⟨gx, 4, none⟩ (.int .i64 (n : Int))) := by
  obtain ⟨a, b, c⟩ := h.ob.set 4 (.int .i64 (n : Int))
  exact ⟨⟨a, h.q.kept (c 0 (by omega)) b.size, Blk.kept h.l (c 1 (by omega) gl h.lf), h.lf, h.t.kept (c 2 (by omega)) b.size, h.ok⟩, b⟩
theorem RHeAt.cells (h : RHeAt w B gx gq gl gt room s F Fs) : w.cell? ⟨gx, 0, none⟩ = some (.pointer (some ⟨gq, 0, none⟩)) ∧ w.cell? ⟨gx, 1, none⟩ = some (.pointer (some ⟨gl, 0, none⟩)) ∧ w.cell? ⟨gx, 2, none⟩ = some (.pointer (some ⟨gt, 0, none⟩)) ∧ w.cell? ⟨gx, 3, none⟩ = some (.int .i64 (s.ent : Nat)) ∧ w.cell? ⟨gx, 4, none⟩ = some (.int .i64 (s.ret : Nat)) :=
  ⟨h.ob.blk.cell (i := 0) rfl, h.ob.blk.cell (i := 1) rfl, h.ob.blk.cell (i := 2) rfl, h.ob.blk.cell (i := 3) rfl, h.ob.blk.cell (i := 4) rfl⟩
theorem RHeAt.few (h : RHeAt w B gx gq gl gt room s F Fs) : s.q.length ≤ 16 := by have := h.q.2.2.1; omega
/-- the queue's own cells. -/
theorem RHeAt.row (h : RHeAt w B gx gq gl gt room s F Fs) : ∃ V cV, w.cell? ⟨gq, 0, none⟩ = some (.int .i64 (room : Nat)) ∧ w.cell? ⟨gq, 1, none⟩ = some (.slice V s.q.length cV) := by
  obtain ⟨_, _, _, _, V, cV, vs, hbk, _⟩ := h.q
  exact ⟨V, cV, hbk.cell (i := 0) rfl, hbk.cell (i := 1) rfl⟩
def RHTellR (w : World) (B gx room : Nat) (s' : Hst) (F : Nat → Prop) (ts : List Prb) (e : Ending) (w' : World) : Prop :=
  ∃ A c F', e = .returned (.slice A ts.length c) ∧ Prbs (fun k => w.heap.size ≤ k ∧ ¬ F' k) w' A ts ∧ RHe w' B gx room s' F' ∧ Turn F F' w w'
set_option maxHeartbeats 1000000 in
theorem rhe_tick (h : RHeAt w B gx gq gl gt room s F Fs) : Calls Try.prog 38 #[.pointer (some ⟨gx, 0, none⟩)] w (RHTellR w B gx room (htickS s) F (htickT s)) := by
  obtain ⟨_, c1, _, _, _⟩ := h.cells
  have HK := hide (rled_ask w gl s.led h.l h.ok)
  have HA := hide h
  unfold RHTellR htickS htickT
  clear h
  cases hb : s.led.askB with
  | false =>
    rw [hb] at HK
    rw [if_neg (by simp)]
    clear hb
    go_enter Try.func38, Try.ntmps38
    go_wp2_with fail
    refine HK.out.mono ?_; rintro e w1 ⟨rfl, hl, hg⟩
    obtain ⟨F1, Fs1, h1, t1⟩ := HA.out.led hl hg (Led.ok_ask HA.out.ok)
    have H1 := hide h1
    have T1 := hide t1
    clear hl hg h1 t1
    go_wp2
    go_ret
    exact ⟨none, 0, F1, rfl, Prbs.nil _ _ _, ⟨_, _, _, _, H1.out⟩, T1.out⟩
  | true =>
    rw [hb] at HK
    rw [if_pos rfl]
    clear hb
    go_enter Try.func38, Try.ntmps38
    go_wp2_with fail
    refine HK.out.mono ?_; rintro e w1 ⟨rfl, hl, hg⟩
    obtain ⟨F1, Fs1, h1, t1⟩ := HA.out.led hl hg (Led.ok_ask HA.out.ok)
    have H1 := hide h1
    have T1 := hide t1
    clear hl hg h1 t1
    go_wp2
    go_ret
    exact ⟨_, _, F1, rfl, prbs_one w1 0 0 none 0 [] 36 ⟨T1.out.size, fun hf => by have := (H1.out.ob.foot _ hf).2; omega⟩ (Rd.nil _ _ _) (by simp) (fun h => by cases h), RHe.on ⟨_, _, _, _, H1.out⟩ ((Below.refl _ _).alloc (Nat.le_refl _) _), T1.out.alloc _⟩
end
set_option maxHeartbeats 1000000 in
theorem rhe_new (r : Int) (hr : 1 ≤ r) (hr2 : r ≤ 16) (n : Nat) (hn : n < 18446744073709551616) (w : World) :
    Calls Try.prog 37 #[.int .i64 r, .int .u64 (n : Int)] w fun e w' => ∃ gx F', e = .returned (.tuple #[.pointer (some ⟨gx, 0, none⟩), .int .i64 0]) ∧ RHe w' w.heap.size gx r.toNat (newH n) F' ∧ Below w.heap.size w w' := by
  have HQ := hide (rque_new r hr hr2 w)
  have HN := hide (fun W => rled_new n W)
  clear hr hr2
  go_enter Try.func37, Try.ntmps37
  go_wp2_with fail
  refine HQ.out.mono ?_; rintro e w1 ⟨gq, Fq, rfl, hq, hb⟩
  have HQ1 := hide hq
  have HB1 := hide hb
  clear hq hb HQ
  go_wp2_with fail
  refine (HN.out w1).mono ?_; rintro e w2 ⟨rfl, hl, hb2⟩
  have hB2 : w.heap.size ≤ w2.heap.size := Nat.le_trans HB1.out.size hb2.size
  obtain ⟨w3, hw3⟩ : ∃ w3, w3 = w2.alloc (.cells #[.slice none 0 0] 85) := ⟨_, rfl⟩
  have hb3 : Below w2.heap.size w2 w3 := by rw [hw3]; exact (Below.refl _ _).alloc (Nat.le_refl _) _
  have ht : RTa w3 w.heap.size w2.heap.size [] (fun k => k = w2.heap.size) := by rw [hw3]; exact rta_new w2 hB2
  have hl2 : w1.heap.size < w2.heap.size := hl.lt
  have hq3 := (HQ1.out.on hb2).on hb3
  have hl3 := Blk.on hl hb3
  have hs3 : w2.heap.size < w3.heap.size := by rw [hw3]; simp
  have HO := hide (Ob.new w3 (Nat.le_trans hB2 hb3.size) 3 128 (hC gq w1.heap.size w2.heap.size (newH n)) (fun k => Fq k ∨ k = w1.heap.size ∨ k = w2.heap.size) (fun i => if i = 0 then Fq else if i = 1 then fun k => k = w1.heap.size else fun k => k = w2.heap.size)
    (fun k hk => by
      rcases hk with hk | hk | hk
      · exact hq3.1 k hk
      · subst hk; exact ⟨HB1.out.size, by omega⟩
      · subst hk; exact ⟨hB2, hs3⟩)
    (fun i hi k hk => by rcases (show i = 0 ∨ i = 1 ∨ i = 2 by omega) with rfl | rfl | rfl; exact .inl hk; exact .inr (.inl hk); exact .inr (.inr hk))
    (fun i j hi hj hne => by
      have h1 : ∀ k, Fq k → k = w1.heap.size → False := fun k hk e => by have := (HQ1.out.1 k hk).2; omega
      have h2 : ∀ k, Fq k → k = w2.heap.size → False := fun k hk e => by have := (HQ1.out.1 k hk).2; omega
      have h3 : ∀ k, k = w1.heap.size → k = w2.heap.size → False := fun k e e2 => by omega
      rcases (show i = 0 ∨ i = 1 ∨ i = 2 by omega) with rfl | rfl | rfl <;> rcases (show j = 0 ∨ j = 1 ∨ j = 2 by omega) with rfl | rfl | rfl
      · exact absurd rfl hne
      · exact fun k a b => h1 k a b
      · exact fun k a b => h2 k a b
      · exact fun k a b => h1 k b a
      · exact absurd rfl hne
      · exact fun k a b => h3 k a b
      · exact fun k a b => h2 k b a
      · exact fun k a b => h3 k b a
      · exact absurd rfl hne))
  have HQ3 := hide hq3
  have HL3 := hide hl3
  have HT3 := hide ht
  have HB3 := hide (below2 (below2 HB1.out hb2 (Nat.le_refl _)) hb3 (Nat.le_refl _))
  clear hl hl2 hq3 hb2 hb3 ht hl3 hs3 hB2
  go_wp2
  go_ret2
  rw [← hw3]
  have hbA := (Below.refl w3.heap.size w3).alloc (Nat.le_refl _) (.cells (hC gq w1.heap.size w2.heap.size (newH n)).toArray 128)
  refine ⟨_, _, ?_, ⟨gq, w1.heap.size, w2.heap.size, _, HO.out.1, HQ3.out.on hbA, Blk.on HL3.out hbA, rfl, HT3.out.on hbA, Led.ok_new n (by omega)⟩, below2 HB3.out hbA (Nat.le_refl _)⟩
  rw [hw3]
  first | rfl | simp
theorem rhe_bad (r : Int) (hr : r < 1 ∨ 16 < r) (n : Nat) (w : World) : Calls Try.prog 37 #[.int .i64 r, .int .u64 (n : Int)] w fun e w' => e = .returned (.tuple #[.pointer none, .int .i64 1]) ∧ w = w' := by
  have HQ := hide (rque_bad r hr w)
  clear hr
  go_enter Try.func37, Try.ntmps37
  go_wp2_with fail
  refine HQ.out.mono ?_; rintro e w1 ⟨rfl, rfl⟩
  go_wp2
  go_ret2
  exact ⟨rfl, rfl⟩
end Go.Proofs.Ytnbhgeodbpelgaa
