/- Layer 28's reference giver: what it is at, New, known, Receive. No conditions. -/
import Derived.Test.YtfcappddncnglaaGivE
namespace Go.Proofs.Ytfcappddncnglaa
open Go.RowKit No
set_option linter.unusedVariables false
attribute [local go_sem ↓] Go.wp_at_zero Go.wp_at_succ

def rgvC (gq gs : Nat) (s : Gst) (tp cp : Nat) : List Value := [.pointer (some ⟨gq, 0, none⟩), .pointer (some ⟨gs, 0, none⟩), .int .u64 (s.R : Nat), .bool s.opn, .bool s.has, .int .u64 (tp : Nat), .int .u64 (cp : Nat), .int .u64 (s.last : Nat), .int .i64 (s.ent : Nat), .int .i64 (s.ret : Nat)]
/-- the reference's giver, in block gx; its source in block gs. -/
structure RGvAt (w : World) (B gx gq gs room : Nat) (L : List Nat) (s : Gst) (F : Nat → Prop) (Fs : Nat → Nat → Prop) (tp cp : Nat) : Prop where
  ob : Ob w B gx 2 108 (rgvC gq gs s tp cp) F Fs
  now : s.opn = true → tp = s.t ∧ cp = s.c
  q : RQu w B gq room s.q (Fs 0)
  src : RSrc w B gs L s.U (Fs 1)
def RGv (w : World) (B gx gs room : Nat) (L : List Nat) (s : Gst) (F : Nat → Prop) : Prop := ∃ gq Fs tp cp, RGvAt w B gx gq gs room L s F Fs tp cp
section
variable {w w' : World} {B gx gq gs room : Nat} {L : List Nat} {s : Gst} {F : Nat → Prop} {Fs : Nat → Nat → Prop} {tp cp : Nat}
theorem RGvAt.kept (h : RGvAt w B gx gq gs room L s F Fs tp cp) (hk : ∀ k, F k → w'.heap[k]? = w.heap[k]?) (hs : w.heap.size ≤ w'.heap.size) : RGvAt w' B gx gq gs room L s F Fs tp cp :=
  ⟨h.ob.kept hk hs, h.now, h.q.kept (h.ob.part (i := 0) (by omega) hk) hs, h.src.kept (h.ob.part (i := 1) (by omega) hk) hs⟩
theorem RGv.kept (h : RGv w B gx gs room L s F) (hk : ∀ k, F k → w'.heap[k]? = w.heap[k]?) (hs : w.heap.size ≤ w'.heap.size) : RGv w' B gx gs room L s F := by
  obtain ⟨gq, Fs, tp, cp, h⟩ := h
  exact ⟨gq, Fs, tp, cp, h.kept hk hs⟩
theorem RGv.foot (h : RGv w B gx gs room L s F) : Foot F B w := by obtain ⟨_, _, _, _, h⟩ := h; exact h.ob.foot
theorem RGv.on (h : RGv w B gx gs room L s F) (hb : Below w.heap.size w w') : RGv w' B gx gs room L s F := h.kept (below_kept hb h.foot) hb.size
theorem RGvAt.on (h : RGvAt w B gx gq gs room L s F Fs tp cp) (hb : Below w.heap.size w w') : RGvAt w' B gx gq gs room L s F Fs tp cp := h.kept (below_kept hb h.ob.foot) hb.size
end
set_option maxHeartbeats 1000000 in
theorem rgv_new (r : Int) (hr : 1 ≤ r) (hr2 : r ≤ 16) {w : World} {B gs : Nat} {L U : List Nat} {Fs : Nat → Prop} (h : RSrc w B gs L U Fs) (hB : B ≤ w.heap.size) (hL : L.length ≤ 17592186044416) (hU : U.length ≤ 1099511627776) :
    Calls Try.prog 53 #[.int .i64 r, .pointer (some ⟨gs, 0, none⟩)] w fun e w' => ∃ gx F', e = .returned (.tuple #[.pointer (some ⟨gx, 0, none⟩), .int .i64 0]) ∧ RGv w' B gx gs r.toNat L (newG L U) F' ∧ Turn Fs F' w w' := by
  have HQ := hide (rque_new r hr hr2 w)
  have HS := hide h
  have HN := hide (fun W (hs : RSrc W B gs L U Fs) => rsrc_next W B gs L U Fs hs hL hU)
  clear h hL hU hr hr2
  go_enter Try.func53, Try.ntmps53
  go_wp2_with fail
  refine HQ.out.mono ?_; rintro e w1 ⟨gq, Fq, rfl, hq, hb⟩
  have HQ1 := hide hq
  have HB1 := hide hb
  have HN1 := hide (HN.out w1 (HS.out.on hb))
  clear hq hb HN HQ
  go_wp2_with fail
  refine HN1.out.mono ?_; rintro e w2 ⟨F2, rfl, hs2, ht2⟩
  have hoff : Off Fs Fq := Off.new HS.out.1 HQ1.out.1 (Nat.le_refl _)
  have hq2 : RQu w2 w.heap.size gq r.toNat [] Fq := HQ1.out.kept (fun k hk => ht2.block k (HQ1.out.1 k hk).2 (fun hf => hoff k hf hk)) ht2.size
  have hoff2 : Off F2 Fq := ht2.off hoff HQ1.out.1
  have hqB : RQu w2 B gq r.toNat [] Fq := ⟨hq2.1.down hB, hq2.2⟩
  have HO := hide (Ob.new w2 (Nat.le_trans hB (Nat.le_trans HB1.out.size ht2.size)) 2 108 (rgvC gq gs (newG L U) 0 0) (fun k => Fq k ∨ F2 k) (fun i => if i = 0 then Fq else F2)
    (fun k hk => hk.elim (hqB.1 k) (hs2.1 k))
    (fun i hi k hk => by rcases (show i = 0 ∨ i = 1 by omega) with rfl | rfl; exact .inl hk; exact .inr hk)
    (fun i j hi hj hne => by
      rcases (show i = 0 ∨ i = 1 by omega) with rfl | rfl <;> rcases (show j = 0 ∨ j = 1 by omega) with rfl | rfl
      · exact absurd rfl hne
      · exact hoff2.symm
      · exact hoff2
      · exact absurd rfl hne))
  have HQ2 := hide hqB
  have HS2 := hide hs2
  have HT := hide ((Turn.of_below HB1.out : Turn Fs Fs w w1).trans ht2)
  clear hoff hq2 hoff2 hqB hs2 ht2 HN1
  go_wp2
  go_ret2
  have hbA := (Below.refl w2.heap.size w2).alloc (Nat.le_refl _) (.cells (rgvC gq gs (newG L U) 0 0).toArray 108)
  refine ⟨_, _, rfl, ⟨gq, _, 0, 0, HO.out.1, (fun h => by cases h), HQ2.out.on hbA, HS2.out.on hbA⟩, ?_⟩
  exact (HT.out.alloc _).more (fun k hk => by
    rcases hk with (hk | hk) | hk
    · exact .inr (HQ1.out.1 k hk).1
    · rcases HT.out.new k hk with h1 | h1
      · exact .inl h1
      · exact .inr h1
    · exact .inr (by have := HT.out.size; omega))
theorem rgv_bad (r : Int) (hr : r < 1 ∨ 16 < r) (s : Option Addr) (w : World) : Calls Try.prog 53 #[.int .i64 r, .pointer s] w fun e w' => e = .returned (.tuple #[.pointer none, .int .i64 1]) ∧ w = w' := by
  have HQ := hide (rque_bad r hr w)
  clear hr
  go_enter Try.func53, Try.ntmps53
  go_wp2_with fail
  refine HQ.out.mono ?_; rintro e w1 ⟨rfl, rfl⟩
  go_wp2
  go_ret2
  exact ⟨rfl, rfl⟩
theorem rgv_nosrc (r : Int) (w : World) : Calls Try.prog 53 #[.int .i64 r, .pointer none] w fun e w' => e = .returned (.tuple #[.pointer none, .int .i64 1]) ∧ Below w.heap.size w w' := by
  by_cases hr : r < 1 ∨ 16 < r
  · exact (rgv_bad r hr none w).mono (by rintro e w' ⟨rfl, rfl⟩; exact ⟨rfl, Below.refl _ _⟩)
  · have HQ := hide (rque_new r (by omega) (by omega) w)
    clear hr
    go_enter Try.func53, Try.ntmps53
    go_wp2_with fail
    refine HQ.out.mono ?_; rintro e w1 ⟨gq, Fq, rfl, hq, hb⟩
    have HB := hide hb
    clear hq hb
    go_wp2
    go_ret2
    exact ⟨rfl, HB.out⟩
theorem rgv_known {w : World} {B gx gs room : Nat} {L : List Nat} {s : Gst} {F : Nat → Prop} (h : RGv w B gx gs room L s F) :
    Calls Try.prog 81 #[.pointer (some ⟨gx, 0, none⟩)] w (TokR (knownT s) w) := by
  obtain ⟨gq, Fs, tp, cp, h⟩ := h
  have hf : s.q.length ≤ 16 := by have := h.q.2.2.1; omega
  have c0 : w.cell? ⟨gx, 0, none⟩ = some (.pointer (some ⟨gq, 0, none⟩)) := h.ob.blk.cell (i := 0) rfl
  have c2 : w.cell? ⟨gx, 2, none⟩ = some (.int .u64 (s.R : Nat)) := h.ob.blk.cell (i := 2) rfl
  have c7 : w.cell? ⟨gx, 7, none⟩ = some (.int .u64 (s.last : Nat)) := h.ob.blk.cell (i := 7) rfl
  obtain ⟨_, _, _, _, V, cV, vs, hbk, _⟩ := h.q
  have x1 : w.cell? ⟨gq, 1, none⟩ = some (.slice V s.q.length cV) := hbk.cell (i := 1) rfl
  unfold knownT
  clear h hbk
  by_cases hq : 0 < s.q.length
  · rw [if_pos hq]
    go_enter Try.func81, Try.ntmps81
    go_wp2
    go_ret
    exact ⟨none, 0, rfl, Toks.nil _ _, Below.refl _ _, newA_none _ _⟩
  · rw [if_neg hq]
    have h0 : s.q.length = 0 := by omega
    rw [h0] at x1
    have HT := hide (fun W => toks_one W (3, s.last, 0, s.R) 96)
    clear hq hf h0
    go_enter Try.func81, Try.ntmps81
    go_wp2
    go_region_held3 (fun w' => w'.cell? ⟨gx, 2, none⟩ = some (.int .u64 (s.R : Nat)) ∧ w'.cell? ⟨gx, 7, none⟩ = some (.int .u64 (s.last : Nat))) (go_keep) (fail)
    go_wp2
    go_ret
    exact ⟨_, _, rfl, HT.out _, (Below.refl _ _).drew.alloc (by simp) _, newA_no (Nat.le_refl _)⟩
/-- a text lies elsewhere than in a block that holds no bytes. -/
theorem rd_far {w : World} {g : Nat} {ty : TypeId} {cs : List Value} (hb : Blk w g ty cs) (hn : ∀ v ∈ cs, ∀ x : Int, v ≠ .int .u8 x) {B : Nat} {A : Option Addr} {m : List Nat} (h : Rd B w A (u8s m)) (o : Nat) (v : Value) : Rd B (w.setCell ⟨g, o, none⟩ v) A (u8s m) := fun hl => by
  obtain ⟨b, o1, rfl, hlt, hc⟩ := h hl
  have hne : b ≠ g := fun e => by
    subst e
    rw [u8s_length] at hl
    have h0 := hc 0 _ (u8s_get (List.getElem?_eq_getElem hl))
    rw [cell_of_row w b (o1 + 0) cs.toArray ty (0, 0) hb] at h0
    have h1 : cs[o1 + 0]? = some (.int .u8 (m[0] : Nat)) := by simpa using h0
    exact hn _ (List.mem_of_getElem? h1) _ rfl
  exact ⟨b, o1, rfl, hlt, fun j u hu => (World.cell?_of_block (w := w) (Below.heap_setCell w ⟨g, o, none⟩ v b hne)).trans (hc j u hu)⟩
theorem rgvC_no (gq gs : Nat) (s : Gst) (tp cp : Nat) : ∀ v ∈ rgvC gq gs s tp cp, ∀ x : Int, v ≠ .int .u8 x := by
  intro v hv x e
  subst e
  simp [rgvC] at hv
/-- what the reference's Receive tells, and leaves. -/
def RRecR (w : World) (B gx gs room : Nat) (L : List Nat) (s : Gst) (F : Nat → Prop) (e : Ending) (w' : World) : Prop :=
  ∃ A c A2 c2 F', e = .returned (.tuple #[.slice A ((getAt s.q 0).getD []).length c, .slice A2 (recT s).length c2, .bool (getAt s.q 0).isSome]) ∧ Rd w'.heap.size w' A (u8s ((getAt s.q 0).getD [])) ∧ Toks w' A2 (recT s) ∧ RGv w' B gx gs room L (recS s) F' ∧ Turn F F' w w' ∧ NewA A2 w F'
set_option maxHeartbeats 1000000 in
theorem rgv_recv {w : World} {B gx gs room : Nat} {L : List Nat} {s : Gst} {F : Nat → Prop} (h : RGv w B gx gs room L s F) (hret : s.ret ≤ 1000000) :
    Calls Try.prog 60 #[.pointer (some ⟨gx, 0, none⟩)] w (RRecR w B gx gs room L s F) := by
  have HG := hide h
  obtain ⟨gq, Fs, tp, cp, h⟩ := h
  have HA := hide h
  have c0 : w.cell? ⟨gx, 0, none⟩ = some (.pointer (some ⟨gq, 0, none⟩)) := h.ob.blk.cell (i := 0) rfl
  have HP := hide (rque_popV h.q)
  clear h
  unfold RRecR
  cases hq : s.q with
  | nil =>
    have e1 : recS s = s := by unfold recS; rw [hq, if_pos (by simp)]
    have e2 : recT s = [] := by unfold recT; rw [hq, if_pos (by simp)]
    rw [e1, e2]
    rw [hq] at HP
    go_enter Try.func60, Try.ntmps60
    go_wp2_with fail
    refine HP.out.mono ?_; rintro e w1 ⟨A, c, F1, rfl, ho, hqu, ht⟩
    obtain ⟨p1, p2, p3⟩ := HA.out.ob.put (p := 0) (by omega) ht hqu.1
    have HR : Hid (RGv w1 B gx gs room L s (fun k => F k ∨ F1 k)) := ⟨gq, _, tp, cp, p1, HA.out.now, (by rw [hq]; exact hqu), HA.out.src.kept (p3 1 (by omega) (by omega)) ht.size⟩
    have HT := hide p2
    clear ho hqu ht p1 p2 p3
    go_wp2
    go_ret3
    exact ⟨none, 0, none, 0, _, rfl, Rd.nil _ _ _, Toks.nil _ _, HR.out, HT.out, newA_none _ _⟩
  | cons m ms =>
    have e1 : recS s = { s with q := ms, ret := s.ret + 1 } := by unfold recS; rw [hq, if_neg (by simp)]; rfl
    have e2 : recT s = knownT { s with q := ms, ret := s.ret + 1 } := by unfold recT; rw [e1, hq, if_neg (by simp)]
    rw [e1, e2]
    rw [hq] at HP
    go_enter Try.func60, Try.ntmps60
    go_wp2_with fail
    refine HP.out.mono ?_; rintro e w1 ⟨A, c, F1, rfl, ho, hqu, ht⟩
    obtain ⟨p1, p2, p3⟩ := HA.out.ob.put (p := 0) (by omega) ht hqu.1
    have c9 : w1.cell? ⟨gx, 9, none⟩ = some (.int .i64 (s.ret : Nat)) := p1.blk.cell (i := 9) rfl
    have f9 := p1.blk.free 9
    obtain ⟨q1, q2, q3⟩ := p1.set 9 (.int .i64 ((s.ret + 1 : Nat) : Int))
    have HR : Hid (RGv (w1.setCell ⟨gx, 9, none⟩ (.int .i64 ((s.ret : Int) + 1))) B gx gs room L { s with q := ms, ret := s.ret + 1 } (fun k => F k ∨ F1 k)) :=
      ⟨gq, _, tp, cp, q1, HA.out.now, (hqu : RQu w1 B gq room ms F1).kept (q3 0 (by omega)) q2.size, (HA.out.src.kept (p3 1 (by omega) (by omega)) ht.size).kept (q3 1 (by omega)) q2.size⟩
    have HT := hide (p2.trans q2)
    have HKN := hide (rgv_known HR.out)
    have HOW := hide (rd_far p1.blk (rgvC_no _ _ _ _ _) ho 9 (.int .i64 ((s.ret : Int) + 1)))
    clear ho hqu ht p1 p2 p3 q1 q2 q3 HP
    go_wp2_with fail
    refine HKN.out.mono ?_; rintro e w2 ⟨A2, c2, rfl, htk, hb, hn⟩
    have HB := hide hb
    have HTK := hide htk
    have HNA := hide hn
    clear hb htk hn
    go_wp2
    go_ret3
    have hsz : (w1.setCell ⟨gx, 9, none⟩ (.int .i64 ((s.ret : Int) + 1))).heap.size = w1.heap.size := by simp [World.setCell]
    exact ⟨A, c, A2, c2, _, rfl, (HOW.out.below HB.out (by omega)).more (by have := HB.out.size; omega), HTK.out, HR.out.on HB.out, HT.out.trans (Turn.of_below HB.out), HNA.out.lift HT.out.size HR.out.foot⟩
end Go.Proofs.Ytfcappddncnglaa
