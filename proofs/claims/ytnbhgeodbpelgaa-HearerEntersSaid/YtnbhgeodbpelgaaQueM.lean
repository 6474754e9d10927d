/- Layer 19's reference queue, by what it does in memory: CopyAll, Pop, Push of any. No conditions. -/
import Derived.Test.YtnbhgeodbpelgaaQueL
namespace Go.Proofs.Ytnbhgeodbpelgaa
open Go.RowKit
set_option linter.unusedVariables false

theorem rque_push {w : World} {B g room : Nat} {ms : List (List Nat)} {F : Nat → Prop} (h : RQu w B g room ms F) (A : Option Addr) (c : Nat) (m : List Nat) (hA : Rd w.heap.size w A (u8s m)) :
    Calls Try.prog 64 #[.pointer (some ⟨g, 0, none⟩), .slice A m.length c] w fun e w' => ∃ F', e = .returned (.int .i64 (pushE room ms m : Nat)) ∧ RQu w' B g room (pushL room ms m) F' ∧ Turn F F' w w' := by
  unfold pushE pushL
  by_cases h1 : 64 < m.length
  · rw [if_pos h1, if_pos h1]
    refine (rpush_long h A _ c h1).mono ?_
    rintro e w' ⟨rfl, rfl⟩
    exact ⟨F, rfl, h, Turn.refl F w⟩
  · rw [if_neg h1, if_neg h1]
    by_cases h2 : room ≤ ms.length
    · rw [if_pos h2, if_pos h2]
      refine (rpush_full h A _ c (by omega) h2).mono ?_
      rintro e w' ⟨rfl, n, rfl⟩
      exact ⟨F, rfl, h.drewN n, (Turn.refl F w).drewN n⟩
    · rw [if_neg h2, if_neg h2]
      exact rpush_in h A c m hA (by omega) (by omega)
set_option maxRecDepth 100000 in
set_option maxHeartbeats 1000000 in
theorem copyAll_any {A : Option Addr} {c : Nat} {vs : List Value} {ms : List (List Nat)} {w : World} (hA : Rd w.heap.size w A vs) (ht : Txs w vs ms) (hl : ms.length ≤ 1099511627776) (hm : ∀ m ∈ ms, m.length ≤ 140737488355328) :
    Calls Try.prog 99 #[.slice A ms.length c] w (AllR ms w) := by
  obtain ⟨i0, hi, hz0, hz1, hz2⟩ := info_parts Try.infB
  have HA := hide hA
  have HT := hide ht
  have HM := hide hm
  clear hA ht hm
  go_enter Try.func99, Try.ntmps99
  go_wp2
  go_loopw [3, 4] (fun V i wr => ∃ k : Nat, k ≤ ms.length ∧ i = .int .i64 k ∧ ∃ us, wr.ownsRow w.heap.size 34 1 V k us ∧ Hid (OwnT w.heap.size wr V us (ms.take k)) ∧ Hid (Below w.heap.size w wr)) (fun _ i _ => ms.length - (intOf i).toNat)
  case atStart => exact ⟨0, Nat.zero_le _, rfl, [], World.ownsRow_nil _ _ _ _, OwnT.nil _ _ _, Below.refl _ _⟩
  case round =>
    obtain ⟨k, hk, rfl, us, hown, HOT, HB⟩ := hrel
    by_cases hlt : k < ms.length
    · obtain ⟨m, hmk⟩ : ∃ m, ms[k]? = some m := ⟨_, List.getElem?_eq_getElem hlt⟩
      obtain ⟨v, hv, X, cx, rfl, hX⟩ := HT.out.2 k m hmk
      obtain ⟨b1, o1, rfl, _, hc1⟩ := (HA.out.below HB.out (Nat.le_refl _)).at_ hv
      have HCP := hide (copy_u8 X cx m (HM.out m (List.mem_of_getElem? hmk)) wr (hX.on HB.out))
      have HMK := hide hmk
      have g1 : k + 1 ≤ 9223372036854775807 := by omega
      have g2 : (k + 1) * 24 ≤ 140737488355328 := by omega
      clear hmk hX hv
      go_wp2_with fail
      refine HCP.out.mono ?_; rintro e w1 ⟨A1, c1, rfl, ho1, hb1⟩
      have hob := own_on hown hb1
      have hB1 := Nat.le_trans HB.out.size hb1.size
      have HO1 := hide ho1
      have HB1 := hide hb1
      have HOW := hide hown
      clear ho1 hb1 hown hc1
      go_wp2_with (at_builtin; refine wpList_app1 _ rfl (.tmp 11) (.tmp 17) 75 rfl w.heap.size 34 i0 (.slice none 0 0) 24 Try.underlying75 hi hz0 hz1 hz2 rfl _ _ _ rfl hob _ rfl (by rfl) g1 g2 hB1 ?_; intro v' w2 hown1 hg1 hat1)
      go_roundw
      case rel =>
        refine ⟨k + 1, by omega, by go_num, _, hown1, ?_, below_app (below2 HB.out HB1.out (Nat.le_refl _)) hob hg1 hB1⟩
        have := OwnT.snoc HOT.out HOW.out HB1.out HO1.out HB.out.size hg1 hat1
        show OwnT _ _ _ _ _; rw [List.take_add_one, HMK.out]; exact this
      case measure => simp [intOf]; omega
    · obtain rfl : k = ms.length := by omega
      go_wp2
      go_ret
      obtain ⟨A', c', rfl, _⟩ := own_val hown
      have := HOT.out
      rw [List.take_length] at this
      exact ⟨A', c', us, rfl, hown, this, HB.out⟩
/-- what the reference's Pop tells, and leaves. -/
def RPopR (w : World) (B g room : Nat) (ms : List (List Nat)) (F : Nat → Prop) (e : Ending) (w' : World) : Prop :=
  ∃ A c F', e = .returned (.tuple #[.slice A (ms[0]?.getD []).length c, .bool ms[0]?.isSome]) ∧ Rd w'.heap.size w' A (u8s (ms[0]?.getD [])) ∧ RQu w' B g room ms.tail F' ∧ Turn F F' w w'
theorem rpop_none {w : World} {B g room : Nat} {F : Nat → Prop} (h : RQu w B g room [] F) :
    Calls Try.prog 76 #[.pointer (some ⟨g, 0, none⟩)] w (RPopR w B g room [] F) := by
  have HQ := hide h
  obtain ⟨_, _, _, _, V, cV, vs, hb, _⟩ := h
  have c1 : w.cell? ⟨g, 1, none⟩ = some (.slice V 0 cV) := hb.cell rfl
  clear hb
  go_enter Try.func76, Try.ntmps76
  go_wp2
  go_ret2
  exact ⟨none, 0, F, rfl, Rd.nil _ _ _, HQ.out, Turn.refl F w⟩
theorem rqu_popped {w w1 : World} {B g room : Nat} {m : List Nat} {ms : List (List Nat)} {F : Nat → Prop} {V X A' : Option Addr} {cV cx c' : Nat} {us : List Value}
    (hF : Foot F B w) (hg : F g) (hr : 1 ≤ room ∧ room ≤ 16 ∧ (m :: ms).length ≤ room) (hsm : ∀ x ∈ m :: ms, x.length ≤ 64)
    (hb : Blk w g 116 [.int .i64 (room : Nat), .slice V (m :: ms).length cV])
    (hd : ∀ k, (Value.slice X m.length cx).ownBlock = some k → F k ∧ k ≠ g) (hX : Rd w.heap.size w X (u8s m))
    (hbel : Below w.heap.size w w1) (ho : w1.ownsRow w.heap.size 34 1 (.slice A' ms.length c') ms.length us) (ht : OwnT w.heap.size w1 (.slice A' ms.length c') us ms) :
    let w2 := w1.setCell ⟨g, 1, none⟩ (.slice A' ms.length c')
    Rd w2.heap.size w2 X (u8s m) ∧ RQu w2 B g room ms (more F w w2) ∧ Turn F (more F w w2) w w2 := by
  intro w2
  have hgl := hb.lt
  have hs2 : w2.heap.size = w1.heap.size := by simp [w2, World.setCell]
  have hs1 := hbel.size
  have hfar : ∀ k, k ≠ g → w2.heap[k]? = w1.heap[k]? := fun k hk => Below.heap_setCell w1 ⟨g, 1, none⟩ _ k hk
  have hb1 : Blk w1 g _ _ := hb.on hbel
  refine ⟨?_, ⟨?_, .inl hg, ⟨hr.1, hr.2.1, by have := hr.2.2; simp at this; omega⟩, fun x h => hsm x (List.mem_cons_of_mem _ h), A', c', us, hb1.set 1 (.slice A' ms.length c'), ?_, ?_, ?_, ?_⟩, ?_⟩
  · refine ((rd_keep hX (fun b o s e => ?_)).more (by omega))
    have := hd b (by rw [e]; rfl)
    exact (hfar b this.2).trans (hbel.block b (hF b this.1).2)
  · rintro k (hk | hk)
    · have := hF k hk; omega
    · have := hF g hg; omega
  · exact own_keep (own_more ho (by omega)) fun k hk => hfar k (by have := own_block_lt ho hk; omega)
  · intro k hk
    have := own_block_lt ho hk
    exact .inr ⟨by omega, by omega⟩
  · refine ht.txs.kept (fun u hu k hk => hfar k ?_) (by omega)
    obtain ⟨i, hi⟩ := List.getElem?_of_mem hu
    have hil : i < ms.length := by rw [← ht.1]; exact (List.getElem?_eq_some_iff.1 hi).1
    obtain ⟨v, hv, hov, _⟩ := ht.2 i _ (List.getElem?_eq_getElem hil)
    have e := Option.some.inj (hv.symm.trans hi)
    subst e
    have := own_block_lt hov hk; omega
  · intro u hu k hk
    obtain ⟨i, hi⟩ := List.getElem?_of_mem hu
    have hil : i < ms.length := by rw [← ht.1]; exact (List.getElem?_eq_some_iff.1 hi).1
    obtain ⟨v, hv, hov, hdd⟩ := ht.2 i _ (List.getElem?_eq_getElem hil)
    have e := Option.some.inj (hv.symm.trans hi)
    subst e
    have := own_block_lt hov hk
    exact ⟨.inr ⟨by omega, by omega⟩, by omega, hdd k hk⟩
  · refine ⟨hbel.os, hbel.tape, hbel.output, by omega, fun k hk hn => (hfar k (fun e => hn (e ▸ hg))).trans (hbel.block k hk), fun k hk => hk.elim .inl (fun h => .inr h.1)⟩
set_option maxRecDepth 100000 in
set_option maxHeartbeats 1000000 in
theorem rpop_some {w : World} {B g room : Nat} {m : List Nat} {ms : List (List Nat)} {F : Nat → Prop} (h : RQu w B g room (m :: ms) F) :
    Calls Try.prog 76 #[.pointer (some ⟨g, 0, none⟩)] w (RPopR w B g room (m :: ms) F) := by
  obtain ⟨hF, hg, ⟨r1, r2, r3⟩, hsm, V, cV, vs, hb, ho, hV, ht, hd⟩ := h
  obtain ⟨gv, rfl, hgv1, hgv2⟩ := own_where ho (by simp)
  obtain ⟨u, hu, X, cx, rfl, hX⟩ := ht.2 0 m rfl
  have hdX := hd _ (List.mem_of_getElem? hu)
  have HPO := hide (fun (w1 : World) (A' : Option Addr) (c' : Nat) (us : List Value) => rqu_popped (w1 := w1) (A' := A') (c' := c') (us := us) (X := X) (cx := cx) hF hg ⟨r1, r2, r3⟩ hsm hb (fun k hk => ⟨(hdX k hk).1, (hdX k hk).2.1⟩) hX)
  have HB := hide hb
  have hcap : (m :: ms).length ≤ cV := by
    obtain ⟨A0, c0, e, hc⟩ := own_val ho
    injection e with _ _ e; omega
  have HC : Hid (∀ (A2 : Option Addr) (c2 : Nat), A2 = (if cV = 1 then some (⟨gv, 0, none⟩ : Addr) else some ⟨gv, 1, none⟩) → Calls Try.prog 99 #[.slice A2 ms.length c2] w (AllR ms w)) := by
    intro A2 c2 e
    refine copyAll_any (vs := vs.drop 1) ?_ ht.tail (by simp at r3; omega) (fun x hx => by have := hsm x (List.mem_cons_of_mem _ hx); omega)
    intro hp
    have hvl := ht.1
    have hc1 : cV ≠ 1 := by
      intro e1
      simp at hp hcap hvl; omega
    rw [if_neg hc1] at e
    obtain ⟨b, o, eA, hlt, hcells⟩ := own_rd ho (by rw [hvl]; simp)
    have eb : b = gv ∧ o = 0 := by injection eA with eA; injection eA with e1 e2; exact ⟨e1.symm, e2.symm⟩
    obtain ⟨rfl, rfl⟩ := eb
    refine ⟨b, 1, e, hlt, fun j u hu => ?_⟩
    rw [List.getElem?_drop] at hu
    have := hcells _ u hu
    rw [Nat.zero_add] at this
    exact this
  have c1 : w.cell? ⟨g, 1, none⟩ = some (.slice (some ⟨gv, 0, none⟩) (ms.length + 1) cV) := hb.cell rfl
  have c2 : w.cell? ⟨gv, 0, none⟩ = some (.slice X m.length cx) := own_cell ho hu
  have t0' : (((ms.length : Int) + 1) == 0) = false := beq_eq_false_iff_ne.2 (by omega)
  have HGL := hide hb.lt
  clear hb ho hV ht hd hsm r1 r2 r3 hF hg hX hdX hu hgv1 hgv2
  by_cases h1 : cV = 1
  · have HC2 := hide (HC.out _ 0 rfl)
    rw [if_pos h1] at HC2
    subst h1
    clear hcap
    go_enter Try.func76, Try.ntmps76
    go_wp2_with fail
    refine HC2.out.mono ?_; rintro e w1 ⟨A', c', us, rfl, ho, ht, hb1⟩
    have hb2 := HB.out.on hb1
    have d1 : w1.cell? ⟨g, 1, none⟩ = some (.slice (some ⟨gv, 0, none⟩) (m :: ms).length 1) := hb2.cell rfl
    have f1 : w1.frozen? ⟨g, 1, none⟩ = false := hb2.free 1
    have HN := hide (HPO.out w1 A' c' us hb1 ho ht)
    clear hb2 ho ht hb1
    go_wp2
    go_ret2
    exact ⟨X, cx, _, rfl, HN.out.1, HN.out.2.1, HN.out.2.2⟩
  · have HC2 := hide (HC.out _ (cV - 1) rfl)
    rw [if_neg h1] at HC2
    clear hcap
    go_enter Try.func76, Try.ntmps76
    go_wp2_with fail
    refine HC2.out.mono ?_; rintro e w1 ⟨A', c', us, rfl, ho, ht, hb1⟩
    have hb2 := HB.out.on hb1
    have d1 : w1.cell? ⟨g, 1, none⟩ = some (.slice (some ⟨gv, 0, none⟩) (m :: ms).length cV) := hb2.cell rfl
    have f1 : w1.frozen? ⟨g, 1, none⟩ = false := hb2.free 1
    have HN := hide (HPO.out w1 A' c' us hb1 ho ht)
    clear hb2 ho ht hb1
    go_wp2
    go_ret2
    exact ⟨X, cx, _, rfl, HN.out.1, HN.out.2.1, HN.out.2.2⟩
theorem rque_pop {w : World} {B g room : Nat} {ms : List (List Nat)} {F : Nat → Prop} (h : RQu w B g room ms F) :
    Calls Try.prog 76 #[.pointer (some ⟨g, 0, none⟩)] w (RPopR w B g room ms F) := by
  cases ms with
  | nil => exact rpop_none h
  | cons m ms => exact rpop_some h
end Go.Proofs.Ytnbhgeodbpelgaa
