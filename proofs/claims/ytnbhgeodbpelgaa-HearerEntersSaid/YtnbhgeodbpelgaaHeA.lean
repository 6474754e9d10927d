/- Layer 21's hearer, by what it does in memory: what it is at, New, is, label, Tick. No conditions. -/
import Derived.Test.YtnbhgeodbpelgaaPrb
import Derived.Test.YtnbhgeodbpelgaaTalG
namespace Go.Proofs.Ytnbhgeodbpelgaa
open Go.RowKit
set_option linter.unusedVariables false
attribute [local go_sem ↓] Go.wp_at_zero Go.wp_at_succ

/-- what a hearer is at. -/
structure Hst where
  q : List (List Nat)
  led : Led
  t : List Trow
  ent : Nat
  ret : Nat
def hC (gq gl gt : Nat) (s : Hst) : List Value := [.pointer (some ⟨gq, 0, none⟩), .pointer (some ⟨gl, 0, none⟩), .pointer (some ⟨gt, 0, none⟩), .int .i64 (s.ent : Nat), .int .i64 (s.ret : Nat)]
structure HeAt (w : World) (B gx gq gl gt room : Nat) (s : Hst) (F : Nat → Prop) (Fs : Nat → Nat → Prop) : Prop where
  ob : Ob w B gx 3 126 (hC gq gl gt s) F Fs
  q : Qu w B gq room s.q (Fs 0)
  l : LedAt w gl s.led
  lf : Fs 1 gl
  t : Ta w B gt s.t (Fs 2)
  ok : s.led.ok
def He (w : World) (B gx room : Nat) (s : Hst) (F : Nat → Prop) : Prop := ∃ gq gl gt Fs, HeAt w B gx gq gl gt room s F Fs
section
variable {w w' : World} {B gx gq gl gt room : Nat} {s : Hst} {F : Nat → Prop} {Fs : Nat → Nat → Prop}
theorem HeAt.kept (h : HeAt w B gx gq gl gt room s F Fs) (hk : ∀ k, F k → w'.heap[k]? = w.heap[k]?) (hs : w.heap.size ≤ w'.heap.size) : HeAt w' B gx gq gl gt room s F Fs :=
  ⟨h.ob.kept hk hs, h.q.kept (h.ob.part (i := 0) (by omega) hk) hs, h.l.kept (h.ob.part (i := 1) (by omega) hk gl h.lf), h.lf, h.t.kept (h.ob.part (i := 2) (by omega) hk) hs, h.ok⟩
theorem He.kept (h : He w B gx room s F) (hk : ∀ k, F k → w'.heap[k]? = w.heap[k]?) (hs : w.heap.size ≤ w'.heap.size) : He w' B gx room s F := by
  obtain ⟨gq, gl, gt, Fs, h⟩ := h
  exact ⟨gq, gl, gt, Fs, h.kept hk hs⟩
theorem He.foot (h : He w B gx room s F) : Foot F B w := by obtain ⟨_, _, _, _, h⟩ := h; exact h.ob.foot
theorem He.on (h : He w B gx room s F) (hb : Below w.heap.size w w') : He w' B gx room s F := h.kept (below_kept hb h.foot) hb.size
theorem HeAt.on (h : HeAt w B gx gq gl gt room s F Fs) (hb : Below w.heap.size w w') : HeAt w' B gx gq gl gt room s F Fs := h.kept (below_kept hb h.ob.foot) hb.size
/-- the ledger has turned. -/
theorem HeAt.led {l' : Led} (h : HeAt w B gx gq gl gt room s F Fs) (hl : LedAt w' gl l') (hg : w.grownBy w' (some gl)) (hok : l'.ok) : ∃ F' Fs', HeAt w' B gx gq gl gt room { s with led := l' } F' Fs' ∧ Turn F F' w w' := by
  have ht : Turn (Fs 1) (Fs 1) w w' := Turn.of_grown hg (by intro k e; cases e; exact h.lf) (fun k hk => .inl hk)
  obtain ⟨p1, p2, p3⟩ := h.ob.put (p := 1) (by omega) ht ((h.ob.fs 1 (by omega)).on ht.size)
  exact ⟨_, _, ⟨p1, h.q.kept (p3 0 (by omega) (by omega)) ht.size, hl, h.lf, h.t.kept (p3 2 (by omega) (by omega)) ht.size, hok⟩, p2⟩
/-- the queue has turned. -/
theorem HeAt.que {ms : List (List Nat)} {F1 : Nat → Prop} (h : HeAt w B gx gq gl gt room s F Fs) (hq : Qu w' B gq room ms F1) (ht : Turn (Fs 0) F1 w w') : ∃ F' Fs', HeAt w' B gx gq gl gt room { s with q := ms } F' Fs' ∧ Turn F F' w w' := by
  obtain ⟨p1, p2, p3⟩ := h.ob.put (p := 0) (by omega) ht hq.1
  exact ⟨_, _, ⟨p1, hq, h.l.kept (p3 1 (by omega) (by omega) gl h.lf), h.lf, h.t.kept (p3 2 (by omega) (by omega)) ht.size, h.ok⟩, p2⟩
/-- the tally has turned. -/
theorem HeAt.tal {ts : List Trow} {F1 : Nat → Prop} (h : HeAt w B gx gq gl gt room s F Fs) (hq : Ta w' B gt ts F1) (ht : Turn (Fs 2) F1 w w') : ∃ F' Fs', HeAt w' B gx gq gl gt room { s with t := ts } F' Fs' ∧ Turn F F' w w' := by
  obtain ⟨p1, p2, p3⟩ := h.ob.put (p := 2) (by omega) ht hq.foot
  exact ⟨_, _, ⟨p1, h.q.kept (p3 0 (by omega) (by omega)) ht.size, h.l.kept (p3 1 (by omega) (by omega) gl h.lf), h.lf, hq, h.ok⟩, p2⟩
theorem HeAt.setEnt (h : HeAt w B gx gq gl gt room s F Fs) (n : Nat) : HeAt (w.setCell ⟨gx, 3, none⟩ (.int .i64 (n : Int))) B gx gq gl gt room { s with ent := n } F Fs ∧ Turn F F w (w.setCell ⟨gx, 3, none⟩ (.int .i64 (n : Int))) := by
  obtain ⟨a, b, c⟩ := h.ob.set 3 (.int .i64 (n : Int))
  exact ⟨⟨a, h.q.kept (c 0 (by omega)) b.size, h.l.kept (c 1 (by omega) gl h.lf), h.lf, h.t.kept (c 2 (by omega)) b.size, h.ok⟩, b⟩
theorem HeAt.setRet (h : HeAt w B gx gq gl gt room s F Fs) (n : Nat) : HeAt (w.setCell ⟨gx, 4, none⟩ (.int .i64 (n : Int))) B gx gq gl gt room { s with ret := n } F Fs ∧ Turn F F w (w.setCell ⟨gx, 4, none⟩ (.int .i64 (n : Int))) := by
  obtain ⟨a, b, c⟩ := h.ob.set 4 (.int .i64 (n : Int))
  exact ⟨⟨a, h.q.kept (c 0 (by omega)) b.size, h.l.kept (c 1 (by omega) gl h.lf), h.lf, h.t.kept (c 2 (by omega)) b.size, h.ok⟩, b⟩
theorem HeAt.cells (h : HeAt w B gx gq gl gt room s F Fs) : w.cell? ⟨gx, 0, none⟩ = some (.pointer (some ⟨gq, 0, none⟩)) ∧ w.cell? ⟨gx, 1, none⟩ = some (.pointer (some ⟨gl, 0, none⟩)) ∧ w.cell? ⟨gx, 2, none⟩ = some (.pointer (some ⟨gt, 0, none⟩)) ∧ w.cell? ⟨gx, 3, none⟩ = some (.int .i64 (s.ent : Nat)) ∧ w.cell? ⟨gx, 4, none⟩ = some (.int .i64 (s.ret : Nat)) :=
  ⟨h.ob.blk.cell (i := 0) rfl, h.ob.blk.cell (i := 1) rfl, h.ob.blk.cell (i := 2) rfl, h.ob.blk.cell (i := 3) rfl, h.ob.blk.cell (i := 4) rfl⟩
theorem HeAt.few (h : HeAt w B gx gq gl gt room s F Fs) : s.q.length ≤ 16 := by have := h.q.2.2.1; omega
theorem he_is (h : HeAt w B gx gq gl gt room s F Fs) : Calls Try.prog 80 #[.pointer (some ⟨gx, 0, none⟩)] w fun e w' => e = .returned (.bool true) ∧ w = w' := by
  have c0 := h.cells.1
  clear h
  go_enter Try.func80, Try.ntmps80
  go_wp2
  go_ret
  exact ⟨rfl, rfl⟩
theorem he_label (h : HeAt w B gx gq gl gt room s F Fs) (hd : s.ent ≤ 1000000) : Calls Try.prog 81 #[.pointer (some ⟨gx, 0, none⟩)] w fun e w' => e = .returned (.int .i64 ((s.ent % 2 : Nat) : Int)) ∧ w = w' := by
  have c3 := h.cells.2.2.2.1
  clear h
  go_enter Try.func81, Try.ntmps81
  go_wp2
  go_ret
  rw [show ((s.ent % 2 : Nat) : Int) = (s.ent : Int) % 2 by omega]
  exact ⟨rfl, rfl⟩
/-- packets that are told, in new blocks. -/
def HTellR (w : World) (B gx room : Nat) (s' : Hst) (F : Nat → Prop) (ts : List Prb) (e : Ending) (w' : World) : Prop :=
  ∃ A c F', e = .returned (.slice A ts.length c) ∧ Prbs (fun k => w.heap.size ≤ k ∧ ¬ F' k) w' A ts ∧ He w' B gx room s' F' ∧ Turn F F' w w'
def htickS (s : Hst) : Hst := { s with led := s.led.ask }
def htickT (s : Hst) : List Prb := if s.led.askB then [(0, 0, [])] else []
set_option maxHeartbeats 1000000 in
theorem he_tick (h : HeAt w B gx gq gl gt room s F Fs) : Calls Try.prog 31 #[.pointer (some ⟨gx, 0, none⟩)] w (HTellR w B gx room (htickS s) F (htickT s)) := by
  obtain ⟨c0, c1, _, _, _⟩ := h.cells
  have HI := hide (he_is h)
  have HK := hide (led_ask w gl s.led h.l h.ok)
  have HA := hide h
  unfold HTellR htickS htickT
  clear h
  cases hb : s.led.askB with
  | false =>
    rw [hb] at HK
    rw [if_neg (by simp)]
    clear hb
    go_enter Try.func31, Try.ntmps31
    go_wp2_with fail
    refine HI.out.mono ?_; rintro e w' ⟨rfl, rfl⟩
    go_wp2_with fail
    refine HK.out.mono ?_; rintro e w1 ⟨rfl, hl, hg⟩
    obtain ⟨F1, Fs1, h1, t1⟩ := HA.out.led hl hg (Led.ok_ask HA.out.ok)
    have H1 := hide h1
    have T1 := hide t1
    clear hl hg h1 t1
    go_wp2
    go_ret
    exact ⟨none, 0, F1, rfl, Prbs.nil _ _ _, ⟨_, _, _, _, H1.out⟩, T1.out⟩
  | true =>
    rw [hb] at HK
    rw [if_pos rfl]
    clear hb
    go_enter Try.func31, Try.ntmps31
    go_wp2_with fail
    refine HI.out.mono ?_; rintro e w' ⟨rfl, rfl⟩
    go_wp2_with fail
    refine HK.out.mono ?_; rintro e w1 ⟨rfl, hl, hg⟩
    obtain ⟨F1, Fs1, h1, t1⟩ := HA.out.led hl hg (Led.ok_ask HA.out.ok)
    have H1 := hide h1
    have T1 := hide t1
    clear hl hg h1 t1
    go_wp2
    go_ret
    exact ⟨_, _, F1, rfl, prbs_one w1 0 0 none 0 [] 36 ⟨T1.out.size, fun hf => by have := (H1.out.ob.foot _ hf).2; omega⟩ (Rd.nil _ _ _) (by simp) (fun h => by cases h), He.on ⟨_, _, _, _, H1.out⟩ ((Below.refl _ _).alloc (Nat.le_refl _) _), T1.out.alloc _⟩
end
def newH (n : Nat) : Hst := ⟨[], Led.new n, [], 0, 0⟩
set_option maxHeartbeats 1000000 in
theorem he_new (r : Int) (hr : 1 ≤ r) (hr2 : r ≤ 16) (n : Nat) (hn : n < 18446744073709551616) (w : World) :
    Calls Try.prog 29 #[.int .i64 r, .int .u64 (n : Int)] w fun e w' => ∃ gx F', e = .returned (.tuple #[.pointer (some ⟨gx, 0, none⟩), .int .i64 0]) ∧ He w' w.heap.size gx r.toNat (newH n) F' ∧ Below w.heap.size w w' := by
  have HQ := hide (que_new r hr hr2 w)
  have HN := hide (fun W => led_new n W)
  clear hr hr2
  go_enter Try.func29, Try.ntmps29
  go_wp2_with fail
  refine HQ.out.mono ?_; rintro e w1 ⟨gq, Fq, rfl, hq, hb⟩
  have HQ1 := hide hq
  have HB1 := hide hb
  clear hq hb HQ
  go_wp2_with fail
  refine (HN.out w1).mono ?_; rintro e w2 ⟨rfl, hl, hb2⟩
  have HL2 := hide hl
  have HQ2 := hide (HQ1.out.on hb2)
  have HB2 := hide (below2 HB1.out hb2 (Nat.le_refl _))
  have HB12 := hide hb2
  clear hl hb2
  go_wp2_with fail
  refine (ta_new w2).mono ?_; rintro e w3 ⟨gt, Ft, rfl, ht, hb3⟩
  have hl2 : w1.heap.size < w2.heap.size := HL2.out.lt
  have hq3 := HQ2.out.on hb3
  have hs3 := hb3.size
  have hta : ∀ k, Ft k → w2.heap.size ≤ k ∧ k < w3.heap.size := fun k hk => ht.foot k hk
  have HO := hide (Ob.new w3 (Nat.le_trans HB2.out.size hb3.size) 3 126 (hC gq w1.heap.size gt (newH n)) (fun k => Fq k ∨ k = w1.heap.size ∨ Ft k) (fun i => if i = 0 then Fq else if i = 1 then fun k => k = w1.heap.size else Ft)
    (fun k hk => by
      rcases hk with hk | hk | hk
      · exact hq3.1 k hk
      · subst hk; exact ⟨HB1.out.size, by omega⟩
      · exact ⟨Nat.le_trans HB2.out.size (hta k hk).1, (hta k hk).2⟩)
    (fun i hi k hk => by rcases (show i = 0 ∨ i = 1 ∨ i = 2 by omega) with rfl | rfl | rfl; exact .inl hk; exact .inr (.inl hk); exact .inr (.inr hk))
    (fun i j hi hj hne => by
      have h1 : ∀ k, Fq k → k = w1.heap.size → False := fun k hk e => by have := (HQ1.out.1 k hk).2; omega
      have h2 : ∀ k, Fq k → Ft k → False := fun k hk hk2 => by have := (HQ1.out.1 k hk).2; have := (hta k hk2).1; have := HB12.out.size; omega
      have h3 : ∀ k, k = w1.heap.size → Ft k → False := fun k e hk2 => by have := (hta k hk2).1; omega
      rcases (show i = 0 ∨ i = 1 ∨ i = 2 by omega) with rfl | rfl | rfl <;> rcases (show j = 0 ∨ j = 1 ∨ j = 2 by omega) with rfl | rfl | rfl
      · exact absurd rfl hne
      · exact fun k a b => h1 k a b
      · exact fun k a b => h2 k a b
      · exact fun k a b => h1 k b a
      · exact absurd rfl hne
      · exact fun k a b => h3 k a b
      · exact fun k a b => h2 k b a
      · exact fun k a b => h3 k b a
      · exact absurd rfl hne))
  have HQ3 := hide hq3
  have HL3 := hide (Blk.on HL2.out hb3)
  have HT3 : Hid (Ta w3 w.heap.size gt [] Ft) := by
    obtain ⟨bm, V, cV, h⟩ := ht
    have hr : Rws w3 w.heap.size 96 (two gt bm) V cV [] Ft := by
      obtain ⟨L, r1, r2, r3, r4⟩ := h.rows
      exact ⟨L, r1, own_down r2 HB2.out.size, r3, r4⟩
    exact ⟨bm, V, cV, ⟨h.foot.down HB2.out.size, h.fg, h.fb, h.ne, h.blk, hr, h.map, h.ok⟩⟩
  have HB3 := hide (below2 HB2.out hb3 (Nat.le_refl _))
  clear hl2 hq3 hb3 hs3 hta ht
  go_wp2
  go_ret2
  have hbA := (Below.refl w3.heap.size w3).alloc (Nat.le_refl _) (.cells (hC gq w1.heap.size gt (newH n)).toArray 126)
  exact ⟨_, _, rfl, ⟨gq, w1.heap.size, gt, _, HO.out.1, HQ3.out.on hbA, Blk.on HL3.out hbA, rfl, HT3.out.on hbA, Led.ok_new n (by omega)⟩, below2 HB3.out hbA (Nat.le_refl _)⟩
theorem he_bad (r : Int) (hr : r < 1 ∨ 16 < r) (n : Nat) (w : World) : Calls Try.prog 29 #[.int .i64 r, .int .u64 (n : Int)] w fun e w' => e = .returned (.tuple #[.pointer none, .int .i64 1]) ∧ w = w' := by
  have HQ := hide (que_bad r hr w)
  clear hr
  go_enter Try.func29, Try.ntmps29
  go_wp2_with fail
  refine HQ.out.mono ?_; rintro e w1 ⟨rfl, rfl⟩
  go_wp2
  go_ret2
  exact ⟨rfl, rfl⟩
end Go.Proofs.Ytnbhgeodbpelgaa
