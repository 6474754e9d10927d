/- Layer 21's reference hearer: Pop by what it leaves, Receive. No conditions. -/
import Derived.Test.YtnbhgeodbpelgaaHeN
namespace Go.Proofs.Ytnbhgeodbpelgaa
open Go.RowKit
set_option linter.unusedVariables false
attribute [local go_sem ↓] Go.wp_at_zero Go.wp_at_succ

/-- the queue's blocks behind Pop: its own, and new ones. -/
def popF (g : Nat) (w w2 : World) (k : Nat) : Prop := k = g ∨ (w.heap.size ≤ k ∧ k < w2.heap.size)
theorem rqu_poppedF {w w1 : World} {B g room : Nat} {m : List Nat} {ms : List (List Nat)} {F : Nat → Prop} {V X A' : Option Addr} {cV cx c' : Nat} {us : List Value}
    (hF : Foot F B w) (hg : F g) (hr : 1 ≤ room ∧ room ≤ 16 ∧ (m :: ms).length ≤ room) (hsm : ∀ x ∈ m :: ms, x.length ≤ 64)
    (hb : Blk w g 116 [.int .i64 (room : Nat), .slice V (m :: ms).length cV])
    (hd : ∀ k, (Value.slice X m.length cx).ownBlock = some k → F k ∧ k ≠ g) (hX : Rd w.heap.size w X (u8s m))
    (hbel : Below w.heap.size w w1) (ho : w1.ownsRow w.heap.size 34 1 (.slice A' ms.length c') ms.length us) (ht : OwnT w.heap.size w1 (.slice A' ms.length c') us ms) :
    let w2 := w1.setCell ⟨g, 1, none⟩ (.slice A' ms.length c')
    Rd w2.heap.size w2 X (u8s m) ∧ RQu w2 B g room ms (popF g w w2) ∧ Turn F (popF g w w2) w w2 := by
  intro w2
  have hgl := hb.lt
  have hs2 : w2.heap.size = w1.heap.size := by simp [w2, World.setCell]
  have hs1 := hbel.size
  have hfar : ∀ k, k ≠ g → w2.heap[k]? = w1.heap[k]? := fun k hk => Below.heap_setCell w1 ⟨g, 1, none⟩ _ k hk
  have hb1 : Blk w1 g _ _ := hb.on hbel
  refine ⟨?_, ⟨?_, .inl rfl, ⟨hr.1, hr.2.1, by have := hr.2.2; simp at this; omega⟩, fun x h => hsm x (List.mem_cons_of_mem _ h), A', c', us, hb1.set 1 (.slice A' ms.length c'), ?_, ?_, ?_, ?_⟩, ?_⟩
  · refine ((rd_keep hX (fun b o s e => ?_)).more (by omega))
    have := hd b (by rw [e]; rfl)
    exact (hfar b this.2).trans (hbel.block b (hF b this.1).2)
  · rintro k (hk | hk)
    · have := hF g hg; omega
    · have := hF g hg; omega
  · exact own_keep (own_more ho (by omega)) fun k hk => hfar k (by have := own_block_lt ho hk; omega)
  · intro k hk
    have := own_block_lt ho hk
    exact .inr ⟨by omega, by omega⟩
  · refine ht.txs.kept (fun u hu k hk => hfar k ?_) (by omega)
    obtain ⟨i, hi⟩ := List.getElem?_of_mem hu
    have hil : i < ms.length := by rw [← ht.1]; exact (List.getElem?_eq_some_iff.1 hi).1
    obtain ⟨v, hv, hov, _⟩ := ht.2 i _ (List.getElem?_eq_getElem hil)
    have e := Option.some.inj (hv.symm.trans hi)
    subst e
    have := own_block_lt hov hk; omega
  · intro u hu k hk
    obtain ⟨i, hi⟩ := List.getElem?_of_mem hu
    have hil : i < ms.length := by rw [← ht.1]; exact (List.getElem?_eq_some_iff.1 hi).1
    obtain ⟨v, hv, hov, hdd⟩ := ht.2 i _ (List.getElem?_eq_getElem hil)
    have e := Option.some.inj (hv.symm.trans hi)
    subst e
    have := own_block_lt hov hk
    exact ⟨.inr ⟨by omega, by omega⟩, by omega, hdd k hk⟩
  · refine ⟨hbel.os, hbel.tape, hbel.output, by omega, fun k hk hn => (hfar k (fun e => hn (e ▸ hg))).trans (hbel.block k hk), fun k hk => hk.elim (fun e => .inl (by rw [e]; exact hg)) (fun h => .inr h.1)⟩
/-- what the reference's Pop tells, and leaves: the text's block is in what was the queue's, and is the queue's no more. -/
def RPopF (w : World) (B g room : Nat) (ms : List (List Nat)) (F : Nat → Prop) (e : Ending) (w' : World) : Prop :=
  ∃ A c F', e = .returned (.tuple #[.slice A (ms[0]?.getD []).length c, .bool ms[0]?.isSome]) ∧ Rd w'.heap.size w' A (u8s (ms[0]?.getD [])) ∧ (∀ b, (Value.slice A (ms[0]?.getD []).length c).ownBlock = some b → F b ∧ ¬ F' b) ∧ RQu w' B g room ms.tail F' ∧ Turn F F' w w'
set_option maxRecDepth 100000 in
set_option maxHeartbeats 1000000 in
theorem rpop_someF {w : World} {B g room : Nat} {m : List Nat} {ms : List (List Nat)} {F : Nat → Prop} (h : RQu w B g room (m :: ms) F) :
    Calls Try.prog 76 #[.pointer (some ⟨g, 0, none⟩)] w (RPopF w B g room (m :: ms) F) := by
  obtain ⟨hF, hg, ⟨r1, r2, r3⟩, hsm, V, cV, vs, hb, ho, hV, ht, hd⟩ := h
  obtain ⟨gv, rfl, hgv1, hgv2⟩ := own_where ho (by simp)
  obtain ⟨u, hu, X, cx, rfl, hX⟩ := ht.2 0 m rfl
  have hdX := hd _ (List.mem_of_getElem? hu)
  have HPO := hide (fun (w1 : World) (A' : Option Addr) (c' : Nat) (us : List Value) => rqu_poppedF (w1 := w1) (A' := A') (c' := c') (us := us) (X := X) (cx := cx) hF hg ⟨r1, r2, r3⟩ hsm hb (fun k hk => ⟨(hdX k hk).1, (hdX k hk).2.1⟩) hX)
  have HB := hide hb
  have HNX : Hid (∀ b, (Value.slice X m.length cx).ownBlock = some b → F b ∧ b ≠ g ∧ b < w.heap.size) := fun b hbk => ⟨(hdX b hbk).1, (hdX b hbk).2.1, (hF b (hdX b hbk).1).2⟩
  have hcap : (m :: ms).length ≤ cV := by
    obtain ⟨A0, c0, e, hc⟩ := own_val ho
    injection e with _ _ e; omega
  have HC : Hid (∀ (A2 : Option Addr) (c2 : Nat), A2 = (if cV = 1 then some (⟨gv, 0, none⟩ : Addr) else some ⟨gv, 1, none⟩) → Calls Try.prog 99 #[.slice A2 ms.length c2] w (AllR ms w)) := by
    intro A2 c2 e
    refine copyAll_any (vs := vs.drop 1) ?_ ht.tail (by simp at r3; omega) (fun x hx => by have := hsm x (List.mem_cons_of_mem _ hx); omega)
    intro hp
    have hvl := ht.1
    have hc1 : cV ≠ 1 := by
      intro e1
      simp at hp hcap hvl; omega
    rw [if_neg hc1] at e
    obtain ⟨b, o, eA, hlt, hcells⟩ := own_rd ho (by rw [hvl]; simp)
    have eb : b = gv ∧ o = 0 := by injection eA with eA; injection eA with e1 e2; exact ⟨e1.symm, e2.symm⟩
    obtain ⟨rfl, rfl⟩ := eb
    refine ⟨b, 1, e, hlt, fun j u hu => ?_⟩
    rw [List.getElem?_drop] at hu
    have := hcells _ u hu
    rw [Nat.zero_add] at this
    exact this
  have c1 : w.cell? ⟨g, 1, none⟩ = some (.slice (some ⟨gv, 0, none⟩) (ms.length + 1) cV) := hb.cell rfl
  have c2 : w.cell? ⟨gv, 0, none⟩ = some (.slice X m.length cx) := own_cell ho hu
  have t0' : (((ms.length : Int) + 1) == 0) = false := beq_eq_false_iff_ne.2 (by omega)
  have HGL := hide hb.lt
  clear hb ho hV ht hd hsm r1 r2 r3 hF hg hX hdX hu hgv1 hgv2
  by_cases h1 : cV = 1
  · have HC2 := hide (HC.out _ 0 rfl)
    rw [if_pos h1] at HC2
    subst h1
    clear hcap
    go_enter Try.func76, Try.ntmps76
    go_wp2_with fail
    refine HC2.out.mono ?_; rintro e w1 ⟨A', c', us, rfl, ho, ht, hb1⟩
    have hb2 := HB.out.on hb1
    have d1 : w1.cell? ⟨g, 1, none⟩ = some (.slice (some ⟨gv, 0, none⟩) (m :: ms).length 1) := hb2.cell rfl
    have f1 : w1.frozen? ⟨g, 1, none⟩ = false := hb2.free 1
    have HN := hide (HPO.out w1 A' c' us hb1 ho ht)
    clear hb2 ho ht hb1
    go_wp2
    go_ret2
    exact ⟨X, cx, _, rfl, HN.out.1, fun b hbk => ⟨(HNX.out b hbk).1, fun hp => hp.elim (HNX.out b hbk).2.1 (fun h2 => by have := (HNX.out b hbk).2.2; omega)⟩, HN.out.2.1, HN.out.2.2⟩
  · have HC2 := hide (HC.out _ (cV - 1) rfl)
    rw [if_neg h1] at HC2
    clear hcap
    go_enter Try.func76, Try.ntmps76
    go_wp2_with fail
    refine HC2.out.mono ?_; rintro e w1 ⟨A', c', us, rfl, ho, ht, hb1⟩
    have hb2 := HB.out.on hb1
    have d1 : w1.cell? ⟨g, 1, none⟩ = some (.slice (some ⟨gv, 0, none⟩) (m :: ms).length cV) := hb2.cell rfl
    have f1 : w1.frozen? ⟨g, 1, none⟩ = false := hb2.free 1
    have HN := hide (HPO.out w1 A' c' us hb1 ho ht)
    clear hb2 ho ht hb1
    go_wp2
    go_ret2
    exact ⟨X, cx, _, rfl, HN.out.1, fun b hbk => ⟨(HNX.out b hbk).1, fun hp => hp.elim (HNX.out b hbk).2.1 (fun h2 => by have := (HNX.out b hbk).2.2; omega)⟩, HN.out.2.1, HN.out.2.2⟩
theorem rque_popF {w : World} {B g room : Nat} {ms : List (List Nat)} {F : Nat → Prop} (h : RQu w B g room ms F) :
    Calls Try.prog 76 #[.pointer (some ⟨g, 0, none⟩)] w (RPopF w B g room ms F) := by
  cases ms with
  | nil =>
    have HQ := hide h
    obtain ⟨_, _, _, _, V, cV, vs, hb, _⟩ := h
    have c1 : w.cell? ⟨g, 1, none⟩ = some (.slice V 0 cV) := hb.cell rfl
    clear hb
    go_enter Try.func76, Try.ntmps76
    go_wp2
    go_ret2
    exact ⟨none, 0, F, rfl, Rd.nil _ _ _, (fun b hb => by cases hb), HQ.out, Turn.refl F w⟩
  | cons m ms => exact rpop_someF h
section
variable {w w' : World} {B gx gq gl gt room : Nat} {s : Hst} {F : Nat → Prop} {Fs : Nat → Nat → Prop}
/-- the hearer by no more blocks than are told. -/
theorem RHeAt.tight (h : RHeAt w B gx gq gl gt room s F Fs) : RHeAt w B gx gq gl gt room s (fun k => k = gx ∨ ∃ i, i < 3 ∧ Fs i k) Fs :=
  ⟨⟨fun k hk => hk.elim (fun e => by rw [e]; exact h.ob.foot gx h.ob.own) (fun ⟨i, hi, hf⟩ => h.ob.fs i hi k hf), .inl rfl, h.ob.blk, h.ob.fs, fun i hi k hk => ⟨.inr ⟨i, hi, hk⟩, (h.ob.sub i hi k hk).2⟩, h.ob.off⟩, h.q, h.l, h.lf, h.t, h.ok⟩
/-- the queue has turned; what it has let go is the hearer's no more. -/
theorem RHeAt.pop {ms : List (List Nat)} {F1 : Nat → Prop} {P : Nat → Prop} (h : RHeAt w B gx gq gl gt room s F Fs) (hq : RQu w' B gq room ms F1) (ht : Turn (Fs 0) F1 w w') (hp : ∀ b, P b → Fs 0 b ∧ ¬ F1 b) :
    ∃ F' Fs', RHeAt w' B gx gq gl gt room { s with q := ms } F' Fs' ∧ Turn F F' w w' ∧ ∀ b, P b → ¬ F' b := by
  obtain ⟨p1, p2, p3⟩ := h.ob.put (p := 0) (by omega) ht hq.1
  have hh : RHeAt w' B gx gq gl gt room { s with q := ms } _ _ := ⟨p1, hq, Blk.kept h.l (p3 1 (by omega) (by omega) gl h.lf), h.lf, h.t.kept (p3 2 (by omega) (by omega)) ht.size, h.ok⟩
  refine ⟨_, _, hh.tight, p2.more (fun k hk => ?_), fun b hb hk => ?_⟩
  · rcases hk with e | ⟨i, hi, hk⟩
    · exact .inl (by rw [e]; exact h.ob.own)
    · exact (hh.ob.sub i hi k hk).1.elim .inl (fun h1 => (ht.new k h1).elim (fun h2 => .inl (h.ob.sub 0 (by omega) k h2).1) .inr)
  · obtain ⟨hb0, hb1⟩ := hp b hb
    rcases hk with e | ⟨i, hi, hk⟩
    · exact (h.ob.sub 0 (by omega) b hb0).2 e
    · by_cases e : i = 0
      · rw [if_pos e] at hk; exact hb1 hk
      · rw [if_neg e] at hk; exact h.ob.off i 0 hi (by omega) e b hk hb0
def RHRecR (w : World) (B gx room : Nat) (s : Hst) (F : Nat → Prop) (e : Ending) (w' : World) : Prop :=
  ∃ A c F', e = .returned (.tuple #[.slice A (s.q[0]?.getD []).length c, .bool s.q[0]?.isSome]) ∧ Rd w'.heap.size w' A (u8s (s.q[0]?.getD [])) ∧ RHe w' B gx room (recvHS room s) F' ∧ Turn F F' w w'
set_option maxHeartbeats 1000000 in
theorem rhe_recv (h : RHeAt w B gx gq gl gt room s F Fs) (hd : s.ent ≤ 1000000) (hr : s.ret ≤ 1000000) (hT : tot s.t ≤ 1000000) : Calls Try.prog 40 #[.pointer (some ⟨gx, 0, none⟩)] w (RHRecR w B gx room s F) := by
  have c0 := h.cells.1
  have HA := hide h
  unfold RHRecR
  have hqq := h.q
  cases hq : s.q with
  | nil =>
    have e1 : recvHS room s = s := by unfold recvHS; rw [hq]
    rw [hq] at hqq
    have HP := hide (rque_popF hqq)
    rw [e1]
    have HQ0 := hide hq
    unfold RPopF at HP
    clear h e1 hqq hq
    go_enter Try.func40, Try.ntmps40
    go_wp2_with fail
    refine HP.out.mono ?_; rintro e w1 ⟨A1, c1, F1, rfl, hr1, hn1, hq1, ht1⟩
    obtain ⟨F2, Fs2, h2, t2⟩ := HA.out.que hq1 ht1
    have hs2 : ({ s with q := List.tail [] } : Hst) = s := by have := HQ0.out; cases s; simp_all
    rw [hs2] at h2
    have H2 := hide h2
    have T2 := hide t2
    have HR1 := hide hr1
    clear hr1 hn1 hq1 ht1 h2 t2 hs2 HP
    go_wp2
    go_ret2
    exact ⟨A1, c1, F2, rfl, HR1.out, ⟨_, _, _, _, H2.out⟩, T2.out⟩
  | cons m ms =>
    have e1 : recvHS room s = enterS room { s with q := ms, ret := s.ret + 1 } := by unfold recvHS; rw [hq]
    rw [hq] at hqq
    have HP := hide (rque_popF hqq)
    rw [e1]
    unfold RPopF at HP
    clear h e1 hqq hq
    go_enter Try.func40, Try.ntmps40
    go_wp2_with fail
    refine HP.out.mono ?_; rintro e w1 ⟨A1, c1, F1, rfl, hr1, hn1, hq1, ht1⟩
    obtain ⟨F2, Fs2, h2, t2, hn2⟩ := HA.out.pop hq1 ht1 hn1
    have x4 : w1.cell? ⟨gx, 4, none⟩ = some (.int .i64 (s.ret : Nat)) := h2.cells.2.2.2.2
    have f4 := h2.ob.blk.free 4
    obtain ⟨h3, t3⟩ := h2.setRet (s.ret + 1)
    obtain ⟨w3, hw3⟩ : ∃ w3, w3 = w1.setCell ⟨gx, 4, none⟩ (.int .i64 ((s.ret + 1 : Nat) : Int)) := ⟨_, rfl⟩
    rw [← hw3] at h3 t3
    have hw3b : w1.setCell ⟨gx, 4, none⟩ (.int .i64 ((s.ret : Int) + 1)) = w3 := by rw [hw3]; rfl
    have HT3 := hide (t2.trans t3)
    have HT03 := hide t3
    have HN2 := hide hn2
    have HR1 := hide hr1
    have HEN := hide (rhe_enter h3 hd hT)
    have HW3 := hide hw3b
    unfold REnterR at HEN
    clear hr1 hn1 hq1 ht1 h2 t2 hn2 h3 t3 hw3 hw3b HP
    go_upto_region 4 with (fail)
    rw [HW3.out]
    clear x4 f4
    go_wp2_with fail
    refine HEN.out.mono ?_; rintro e w8 ⟨rfl, gt8, F8, Fs8, h8, t8⟩
    have H8 := hide h8
    have T8 := hide (HT3.out.trans t8)
    have HR8 : Hid (Rd w8.heap.size w8 A1 (u8s m)) := by
      intro hp
      obtain ⟨b, o, hA, hlt, hcl⟩ := HR1.out hp
      have hb : (Value.slice A1 m.length c1).ownBlock = some b := by rw [hA]; rfl
      have hk := (HT03.out.trans t8).block b hlt (HN2.out b hb)
      refine ⟨b, o, hA, Nat.lt_of_lt_of_le hlt (HT03.out.trans t8).size, fun j u hu => ?_⟩
      rw [← hcl j u hu]
      exact World.cell?_of_block hk
    clear h8 t8 HEN
    go_wp2
    go_ret2
    exact ⟨A1, c1, F8, rfl, HR8.out, ⟨_, _, _, _, H8.out⟩, T8.out⟩
end
end Go.Proofs.Ytnbhgeodbpelgaa
