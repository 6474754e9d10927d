/- Layer 28's giver: New, Receive, State, Kept; what a nil one makes. No conditions. -/
import Derived.Test.YtfcappddncnglaaGivD
namespace Go.Proofs.Ytfcappddncnglaa
open Go.RowKit No
set_option linter.unusedVariables false
attribute [local go_sem ↓] Go.wp_at_zero Go.wp_at_succ

/-- a new giver; a source from which U was drawn. -/
def newG (L U : List Nat) : Gst := ⟨[], U ++ [nextN L U.length], 0, 0, nextN L U.length, false, 0, 0, false, 0⟩
set_option maxHeartbeats 1000000 in
theorem gv_new (r : Int) (hr : 1 ≤ r) (hr2 : r ≤ 16) {w : World} {B gs : Nat} {L U : List Nat} {Fs : Nat → Prop} (h : Src w B gs L U Fs) (hB : B ≤ w.heap.size) (hL : L.length ≤ 17592186044416) (hU : U.length ≤ 1099511627776) :
    Calls Try.prog 51 #[.int .i64 r, .pointer (some ⟨gs, 0, none⟩)] w fun e w' => ∃ gx F', e = .returned (.tuple #[.pointer (some ⟨gx, 0, none⟩), .int .i64 0]) ∧ Gv w' B gx gs r.toNat L (newG L U) F' ∧ Turn Fs F' w w' := by
  have HQ := hide (que_new r hr hr2 w)
  have HS := hide h
  have HN := hide (fun W (hs : Src W B gs L U Fs) => src_next W B gs L U Fs hs hL hU)
  clear h hL hU hr hr2
  go_enter Try.func51, Try.ntmps51
  go_wp2_with fail
  refine HQ.out.mono ?_; rintro e w1 ⟨gq, Fq, rfl, hq, hb⟩
  have HQ1 := hide hq
  have HB1 := hide hb
  have HN1 := hide (HN.out w1 (HS.out.on hb))
  clear hq hb HN HQ
  go_wp2_with fail
  refine HN1.out.mono ?_; rintro e w2 ⟨F2, rfl, hs2, ht2⟩
  have hoff : Off Fs Fq := Off.new HS.out.1 HQ1.out.1 (Nat.le_refl _)
  have hq2 : Qu w2 w.heap.size gq r.toNat [] Fq := HQ1.out.kept (fun k hk => ht2.block k (HQ1.out.1 k hk).2 (fun hf => hoff k hf hk)) ht2.size
  have hoff2 : Off F2 Fq := ht2.off hoff HQ1.out.1
  have hqB : Qu w2 B gq r.toNat [] Fq := ⟨hq2.1.down hB, hq2.2⟩
  have HO := hide (Ob.new w2 (Nat.le_trans hB (Nat.le_trans HB1.out.size ht2.size)) 2 132 (gvC gq gs (newG L U) 0 0) (fun k => Fq k ∨ F2 k) (fun i => if i = 0 then Fq else F2)
    (fun k hk => hk.elim (hqB.1 k) (hs2.1 k))
    (fun i hi k hk => by rcases (show i = 0 ∨ i = 1 by omega) with rfl | rfl; exact .inl hk; exact .inr hk)
    (fun i j hi hj hne => by
      rcases (show i = 0 ∨ i = 1 by omega) with rfl | rfl <;> rcases (show j = 0 ∨ j = 1 by omega) with rfl | rfl
      · exact absurd rfl hne
      · exact hoff2.symm
      · exact hoff2
      · exact absurd rfl hne))
  have HQ2 := hide hqB
  have HS2 := hide hs2
  have HT := hide ((Turn.of_below HB1.out : Turn Fs Fs w w1).trans ht2)
  clear hoff hq2 hoff2 hqB hs2 ht2 HN1
  go_wp2
  go_ret2
  have hbA := (Below.refl w2.heap.size w2).alloc (Nat.le_refl _) (.cells (gvC gq gs (newG L U) 0 0).toArray 132)
  refine ⟨_, _, rfl, ⟨gq, _, 0, 0, HO.out.1, (fun h => by cases h), HQ2.out.on hbA, HS2.out.on hbA⟩, ?_⟩
  exact (HT.out.alloc _).more (fun k hk => by
    rcases hk with (hk | hk) | hk
    · exact .inr (HQ1.out.1 k hk).1
    · rcases HT.out.new k hk with h1 | h1
      · exact .inl h1
      · exact .inr h1
    · exact .inr (by have := HT.out.size; omega))
theorem gv_bad (r : Int) (hr : r < 1 ∨ 16 < r) (s : Option Addr) (w : World) : Calls Try.prog 51 #[.int .i64 r, .pointer s] w fun e w' => e = .returned (.tuple #[.pointer none, .int .i64 1]) ∧ w = w' := by
  have HQ := hide (que_bad r hr w)
  clear hr
  go_enter Try.func51, Try.ntmps51
  go_wp2_with fail
  refine HQ.out.mono ?_; rintro e w1 ⟨rfl, rfl⟩
  go_wp2
  go_ret2
  exact ⟨rfl, rfl⟩
theorem gv_nosrc (r : Int) (w : World) : Calls Try.prog 51 #[.int .i64 r, .pointer none] w fun e w' => e = .returned (.tuple #[.pointer none, .int .i64 1]) ∧ Below w.heap.size w w' := by
  by_cases hr : r < 1 ∨ 16 < r
  · exact (gv_bad r hr none w).mono (by rintro e w' ⟨rfl, rfl⟩; exact ⟨rfl, Below.refl _ _⟩)
  · have HQ := hide (que_new r (by omega) (by omega) w)
    clear hr
    go_enter Try.func51, Try.ntmps51
    go_wp2_with fail
    refine HQ.out.mono ?_; rintro e w1 ⟨gq, Fq, rfl, hq, hb⟩
    have HB := hide hb
    clear hq hb
    go_wp2
    go_ret2
    exact ⟨rfl, HB.out⟩
/-- what Receive tells, and leaves. -/
def recS (s : Gst) : Gst := if s.q.length = 0 then s else { s with q := s.q.tail, ret := s.ret + 1 }
def recT (s : Gst) : List Tok := if s.q.length = 0 then [] else knownT (recS s)
def RecR (w : World) (B gx gs room : Nat) (L : List Nat) (s : Gst) (F : Nat → Prop) (e : Ending) (w' : World) : Prop :=
  ∃ A c A2 c2 F', e = .returned (.tuple #[.slice A ((getAt s.q 0).getD []).length c, .slice A2 (recT s).length c2, .bool (getAt s.q 0).isSome]) ∧ w'.ownsRow w.heap.size 5 1 (.slice A ((getAt s.q 0).getD []).length c) ((getAt s.q 0).getD []).length (u8s ((getAt s.q 0).getD [])) ∧ Toks w' A2 (recT s) ∧ Gv w' B gx gs room L (recS s) F' ∧ Turn F F' w w' ∧ NewA A2 w F'
set_option maxHeartbeats 1000000 in
theorem gv_recv {w : World} {B gx gs room : Nat} {L : List Nat} {s : Gst} {F : Nat → Prop} (h : Gv w B gx gs room L s F) (hret : s.ret ≤ 1000000) :
    Calls Try.prog 59 #[.pointer (some ⟨gx, 0, none⟩)] w (RecR w B gx gs room L s F) := by
  have HI := hide (gv_is h)
  have HG := hide h
  obtain ⟨gq, Fs, tp, cp, h⟩ := h
  have HA := hide h
  have c0 : w.cell? ⟨gx, 0, none⟩ = some (.pointer (some ⟨gq, 0, none⟩)) := h.ob.blk.cell rfl
  have HP := hide (que_popV h.q)
  clear h
  unfold RecR
  cases hq : s.q with
  | nil =>
    have e1 : recS s = s := by unfold recS; rw [hq, if_pos (by simp)]
    have e2 : recT s = [] := by unfold recT; rw [hq, if_pos (by simp)]
    rw [e1, e2]
    rw [hq] at HP
    go_enter Try.func59, Try.ntmps59
    go_wp2_with fail
    refine HI.out.mono ?_; rintro e w' ⟨rfl, rfl⟩
    go_wp2_with fail
    refine HP.out.mono ?_; rintro e w1 ⟨A, c, rfl, ho, hqu, ht⟩
    have HO := hide ho
    obtain ⟨p1, p2, p3⟩ := HA.out.ob.put (p := 0) (by omega) ht hqu.1
    have HR : Hid (Gv w1 B gx gs room L s (fun k => F k ∨ Fs 0 k)) := ⟨gq, _, tp, cp, p1, HA.out.now, (by rw [hq]; exact hqu), HA.out.src.kept (p3 1 (by omega) (by omega)) ht.size⟩
    have HT := hide p2
    clear ho hqu ht p1 p2 p3
    go_wp2
    go_ret3
    exact ⟨none, 0, none, 0, _, rfl, World.ownsRow_nil _ _ _ _, Toks.nil _ _, HR.out, HT.out, newA_none _ _⟩
  | cons m ms =>
    have e1 : recS s = { s with q := ms, ret := s.ret + 1 } := by unfold recS; rw [hq, if_neg (by simp)]; rfl
    have e2 : recT s = knownT { s with q := ms, ret := s.ret + 1 } := by unfold recT; rw [e1, hq, if_neg (by simp)]
    rw [e1, e2]
    rw [hq] at HP
    go_enter Try.func59, Try.ntmps59
    go_wp2_with fail
    refine HI.out.mono ?_; rintro e w' ⟨rfl, rfl⟩
    go_wp2_with fail
    refine HP.out.mono ?_; rintro e w1 ⟨A, c, rfl, ho, hqu, ht⟩
    have HO := hide ho
    obtain ⟨p1, p2, p3⟩ := HA.out.ob.put (p := 0) (by omega) ht hqu.1
    have c3 : w1.cell? ⟨gx, 3, none⟩ = some (.int .i64 (s.ret : Nat)) := p1.blk.cell (i := 3) rfl
    have f3 := p1.blk.free 3
    obtain ⟨q1, q2, q3⟩ := p1.set 3 (.int .i64 ((s.ret + 1 : Nat) : Int))
    have HR : Hid (Gv (w1.setCell ⟨gx, 3, none⟩ (.int .i64 ((s.ret : Int) + 1))) B gx gs room L { s with q := ms, ret := s.ret + 1 } (fun k => F k ∨ Fs 0 k)) :=
      ⟨gq, _, tp, cp, q1, HA.out.now, (hqu : Qu w1 B gq room ms (Fs 0)).kept (q3 0 (by omega)) q2.size, (HA.out.src.kept (p3 1 (by omega) (by omega)) ht.size).kept (q3 1 (by omega)) q2.size⟩
    have HT := hide (p2.trans q2)
    have HKN := hide (gv_known HR.out)
    have HOW : Hid ((w1.setCell ⟨gx, 3, none⟩ (.int .i64 ((s.ret : Int) + 1))).ownsRow w.heap.size 5 1 (.slice A m.length c) m.length (u8s m)) :=
      own_keep ho (fun k hk => Below.heap_setCell w1 ⟨gx, 3, none⟩ _ k (fun e => by have := (own_block_lt ho hk).1; have := HA.out.ob.blk.lt; simp only at e; omega))
    clear ho hqu ht p1 p2 p3 q1 q2 q3 HO HP
    go_wp2_with fail
    refine HKN.out.mono ?_; rintro e w2 ⟨A2, c2, rfl, htk, hb, hn⟩
    have HB := hide hb
    have HTK := hide htk
    have HNA := hide hn
    clear hb htk hn
    go_wp2
    go_ret3
    exact ⟨A, c, A2, c2, _, rfl, own_keep HOW.out (fun k hk => HB.out.block k (own_block_lt HOW.out hk).2), HTK.out, HR.out.on HB.out, HT.out.trans (Turn.of_below HB.out), HNA.out.lift HT.out.size HR.out.foot⟩
/-- what a giver is at, as a value. -/
def stateV (s : Gst) : Value := .agg #[.int .i64 (s.ent : Nat), .int .i64 (s.ret : Nat), .int .u64 (s.R : Nat)]
theorem gv_state {w : World} {B gx gs room : Nat} {L : List Nat} {s : Gst} {F : Nat → Prop} (h : Gv w B gx gs room L s F) :
    Calls Try.prog 61 #[.pointer (some ⟨gx, 0, none⟩)] w fun e w' => e = .returned (.agg #[.int .i64 (s.ent : Nat), .int .i64 (s.ret : Nat), .int .u64 (s.R : Nat)]) ∧ Below w.heap.size w w' := by
  have HI := hide (fun o => gv_is (h.on ((Below.refl w.heap.size w).alloc (Nat.le_refl _) o)))
  obtain ⟨gq, Fs, tp, cp, h⟩ := h
  have hxlt : gx < w.heap.size := h.ob.blk.lt
  have k2 : ∀ o : Obj, (w.alloc o).cell? ⟨gx, 2, none⟩ = some (.int .i64 (s.ent : Nat)) := fun o => (h.ob.blk.alloc o).cell (i := 2) rfl
  have k3 : ∀ o : Obj, (w.alloc o).cell? ⟨gx, 3, none⟩ = some (.int .i64 (s.ret : Nat)) := fun o => (h.ob.blk.alloc o).cell (i := 3) rfl
  have k4 : ∀ o : Obj, (w.alloc o).cell? ⟨gx, 4, none⟩ = some (.int .u64 (s.R : Nat)) := fun o => (h.ob.blk.alloc o).cell (i := 4) rfl
  clear h
  go_enter Try.func61, Try.ntmps61
  go_wp2_with fail
  refine (HI.out _).mono ?_; rintro e w' ⟨rfl, rfl⟩
  go_wp2
  go_returns
  exact ⟨rfl, (Below.refl _ _).alloc (Nat.le_refl _) _⟩
theorem nil_state28 (w : World) : Calls Try.prog 61 #[.pointer none] w fun e w' => e = .returned (.agg #[.int .i64 0, .int .i64 0, .int .u64 0]) ∧ Below w.heap.size w w' := by
  have HI := hide nil_is28
  go_enter Try.func61, Try.ntmps61
  go_wp2_with fail
  refine (HI.out _).mono ?_; rintro e w' ⟨rfl, rfl⟩
  go_wp2
  go_returns
  exact ⟨rfl, (Below.refl _ _).alloc (Nat.le_refl _) _⟩
theorem gv_kept {w : World} {B gx gs room : Nat} {L : List Nat} {s : Gst} {F : Nat → Prop} (h : Gv w B gx gs room L s F) :
    Calls Try.prog 62 #[.pointer (some ⟨gx, 0, none⟩)] w (AllR s.q w) := by
  have HI := hide (gv_is h)
  obtain ⟨gq, Fs, tp, cp, h⟩ := h
  have c0 : w.cell? ⟨gx, 0, none⟩ = some (.pointer (some ⟨gq, 0, none⟩)) := h.ob.blk.cell rfl
  have HQ := hide (que_all h.q)
  clear h
  go_enter Try.func62, Try.ntmps62
  go_wp2_with fail
  refine HI.out.mono ?_; rintro e w' ⟨rfl, rfl⟩
  go_wp2_with fail
  refine HQ.out.mono ?_; rintro e w1 ⟨A, c, vs, rfl, h1, h2, h3⟩
  have H1 := hide h1
  have H2 := hide h2
  have H3 := hide h3
  clear h1 h2 h3
  go_wp2
  go_ret
  exact ⟨A, c, vs, rfl, H1.out, H2.out, H3.out⟩
theorem nil_kept28 (w : World) : Calls Try.prog 62 #[.pointer none] w fun e w' => e = .returned (.slice none 0 0) ∧ w = w' := by
  have HI := hide nil_is28
  go_enter Try.func62, Try.ntmps62
  go_wp2_with fail
  refine (HI.out _).mono ?_; rintro e w' ⟨rfl, rfl⟩
  go_wp2
  go_ret
  exact ⟨rfl, rfl⟩
theorem nil_recv28 (w : World) : Calls Try.prog 59 #[.pointer none] w fun e w' => e = .returned (.tuple #[.slice none 0 0, .slice none 0 0, .bool false]) ∧ w = w' := by
  have HI := hide nil_is28
  go_enter Try.func59, Try.ntmps59
  go_wp2_with fail
  refine (HI.out _).mono ?_; rintro e w' ⟨rfl, rfl⟩
  go_wp2
  go_ret3
  exact ⟨rfl, rfl⟩
theorem nil_take28 (k : Int) (T C R : Nat) (A : Option Addr) (n c : Nat) (w : World) : Calls Try.prog 57 #[.pointer none, .agg #[.int .i64 k, .int .u64 (T : Nat), .int .u64 (C : Nat), .int .u64 (R : Nat), .slice A n c]] w fun e w' => e = .returned (.slice none 0 0) ∧ Below w.heap.size w w' := by
  have HI := hide nil_is28
  go_enter Try.func57, Try.ntmps57
  go_wp2_with fail
  refine (HI.out _).mono ?_; rintro e w' ⟨rfl, rfl⟩
  go_wp2
  go_ret
  exact ⟨rfl, (Below.refl _ _).alloc (Nat.le_refl _) _⟩
end Go.Proofs.Ytfcappddncnglaa
