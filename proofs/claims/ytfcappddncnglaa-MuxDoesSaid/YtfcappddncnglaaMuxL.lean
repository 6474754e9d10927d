/- Layer 40's reference Mux: Tell, Take, New. No conditions. -/
import Derived.Test.YtfcappddncnglaaMuxK
namespace Go.Proofs.Ytfcappddncnglaa
open Go.RowKit
set_option linter.unusedVariables false

theorem rque_popE {w : World} {B g room : Nat} {F : Nat → Prop} (h : RQu w B g room [] F) :
    Calls Try.prog 19 #[.pointer (some ⟨g, 0, none⟩)] w fun e w' => e = .returned (.tuple #[.slice none 0 0, .bool false]) ∧ w = w' := by
  obtain ⟨_, _, _, _, V, cV, vs, hb, _⟩ := h
  have c1 : w.cell? ⟨g, 1, none⟩ = some (.slice V 0 cV) := hb.cell rfl
  clear hb
  go_enter Try.func19, Try.ntmps19
  go_wp2
  go_ret2
  exact ⟨rfl, rfl⟩
theorem rque_pop1 {w : World} {B g room : Nat} {m : List Nat} {ms : List (List Nat)} {F : Nat → Prop} (h : RQu w B g room (m :: ms) F) :
    Calls Try.prog 19 #[.pointer (some ⟨g, 0, none⟩)] w fun e w' => ∃ A c F', e = .returned (.tuple #[.slice A m.length c, .bool true]) ∧ Rd w'.heap.size w' A (u8s m) ∧ RQu w' B g room ms F' ∧ Turn F F' w w' := rpop_some h
theorem rput_in (p : Nat) (hp : p < 8) (A : Option Addr) (c : Nat) (m : List Nat) (hm : m.length ≤ 63) (w : World) (hA : Rd w.heap.size w A (u8s m)) :
    Calls Try.prog 39 #[.int .i64 (p : Nat), .slice A m.length c] w fun e w' => ∃ A c, e = .returned (.tuple #[.slice A (m.length + 1) c, .int .i64 0]) ∧ Rd w'.heap.size w' A (u8s (p :: m)) ∧ Below w.heap.size w w' := by
  have hE : putE (p : Int) m = 0 := by unfold putE; rw [if_neg (by omega), if_neg (by omega)]
  have hM := (putE_ok hE).2.2.2
  have h := rput_any (p : Int) A c m w hA
  unfold PutR at h
  rw [hE, hM] at h
  refine h.mono ?_
  rintro e w' ⟨A, c, he, ho, hb⟩
  exact ⟨A, c, he, own_rd ho, hb⟩
/-- a text does not lie in the mux's own block. -/
theorem rd_off {w : World} {g : Nat} {t : TypeId} {v : Value} {n : Int} {V : Option Addr} {l c : Nat} (hb : Blk w g t [.slice V l c, .int .i64 n]) {A : Option Addr} {m : List Nat} (h : Rd w.heap.size w A (u8s m)) (o : Nat) (u : Value) : Rd (w.setCell ⟨g, o, none⟩ u).heap.size (w.setCell ⟨g, o, none⟩ u) A (u8s m) := fun hp => by
  obtain ⟨b, q, hA, hlt, hc⟩ := h hp
  have hne : b ≠ g := by
    intro e
    subst e
    obtain ⟨x, hx⟩ : ∃ x, m[0]? = some x := ⟨_, List.getElem?_eq_getElem (by rw [u8s_length] at hp; exact hp)⟩
    have h0 := hc 0 _ (u8s_get hx)
    rw [Nat.add_zero] at h0
    unfold Blk at hb
    rw [cell_of_row w b q _ t (0, 0) hb] at h0
    rcases q with _ | _ | q <;> simp at h0
  refine ⟨b, q, hA, by simp [World.setCell]; exact hlt, fun j v hv => ?_⟩
  rw [World.cell?_setCell_far _ _ _ _ (fun e => hne e.symm)]
  exact hc j v hv
set_option maxRecDepth 100000 in
set_option maxHeartbeats 2000000 in
theorem rmux_tell {w : World} {B gx room next : Nat} {Q : Nat → List (List Nat)} {F : Nat → Prop} (h : RMx w B gx room Q next F) (hsm : SmallQ Q) :
    Calls Try.prog 44 #[.pointer (some ⟨gx, 0, none⟩)] w (RMPopR w B gx room F (tellF Q next) (nextOf Q next).isSome (tellQ Q next) (tellN Q next)) := by
  have HX := hide h
  have HS := hide hsm
  have hn8 : next < 8 := by obtain ⟨_, _, _, _, h⟩ := h; exact h.lt
  obtain ⟨gs, Fs, gr, cr, h⟩ := h
  have H := hide h
  have c0 : w.cell? ⟨gx, 0, none⟩ = some (.slice (some ⟨gr, 0, none⟩) 8 cr) := h.blk.cell rfl
  have c8 : w.cell? ⟨gx, 1, none⟩ = some (.int .i64 (next : Nat)) := h.blk.cell rfl
  clear h hsm
  go_enter Try.func44, Try.ntmps44
  go_wp2
  go_loop [4] (fun i => ∃ k : Nat, k ≤ 8 ∧ i = .int .i64 k ∧ Hid (nextOf Q next = nf Q next k (8 - k))) (fun i => 8 - (intOf i).toNat)
  case atStart => exact ⟨0, by omega, rfl, rfl⟩
  case round =>
    obtain ⟨k, hk, rfl, hnx⟩ := hrel
    by_cases hlt : k < 8
    · obtain ⟨p, hp⟩ : ∃ p, p = (next + k) % 8 := ⟨_, rfl⟩
      have hp8 : p < 8 := by omega
      have hnx2 : nextOf Q next = if Q p = [] then nf Q next (k + 1) (8 - (k + 1)) else some p := by
        rw [hnx.out, show 8 - k = (8 - (k + 1)) + 1 by omega, hp]; rfl
      have cp : w.cell? ⟨gr, p, none⟩ = some (.pointer (some ⟨gs p, 0, none⟩)) := H.out.row p hp8
      have hq := H.out.q p hp8
      have hpi : ((next : Int) + (k : Int)) % 8 = (p : Int) := by omega
      have hp7 : (p : Int) < 8 := by omega
      have hp0 : (0 : Int) ≤ (p : Int) := by omega
      have HP8 := hide hp8
      clear hp hp8
      cases hQ : Q p with
      | nil =>
        rw [hQ] at hq hnx2
        have HN2 : Hid (nextOf Q next = nf Q next (k + 1) (8 - (k + 1))) := by show _ = _; rw [hnx2, if_pos rfl]
        have HPO := hide (rque_popE hq)
        clear hq hnx2 hnx hQ
        go_wp2_with fail
        refine HPO.out.mono ?_; rintro e w2 ⟨rfl, rfl⟩
        go_wp2
        go_round
        case rel => exact ⟨k + 1, by omega, by go_num, HN2⟩
        case measure => simp [intOf]; omega
      | cons m ms =>
        rw [hQ] at hq hnx2
        have HN2 : Hid (nextOf Q next = some p) := by show _ = _; rw [hnx2, if_neg (by simp)]
        have HPO := hide (rque_pop1 hq)
        have HQ := hide hQ
        have hm63 : m.length ≤ 63 := HS.out p HP8.out m (by rw [hQ]; simp)
        have HM63 := hide hm63
        clear hq hnx2 hnx hQ hm63
        go_wp2_with fail
        refine HPO.out.mono ?_; rintro e w2 ⟨A, c, F', rfl, hr2, hq2, ht2⟩
        have HN := hide (H.out.put HP8.out ht2 hq2)
        have d8 : w2.cell? ⟨gx, 1, none⟩ = some (.int .i64 (next : Nat)) := HN.out.1.blk.cell rfl
        have f8 : w2.frozen? ⟨gx, 1, none⟩ = false := HN.out.1.blk.free 1
        obtain ⟨n2, hn2⟩ : ∃ n, n = (p + 1) % 8 := ⟨_, rfl⟩
        have hn2i : ((p : Int) + 1) % 8 = (n2 : Int) := by omega
        have HN3 := hide (HN.out.1.setNext (n := n2) (by omega))
        have hr3 := rd_off (v := .bool true) HN.out.1.blk hr2 1 (.int .i64 (n2 : Nat))
        have HPU := hide (rput_in p HP8.out A c m HM63.out _ hr3)
        have HNN := hide hn2
        clear hr2 hq2 ht2 hn2 hr3
        go_wp2_with fail
        refine HPU.out.mono ?_; rintro e w4 ⟨A4, c4, rfl, hr4, hb4⟩
        have HR4 := hide hr4
        have HB4 := hide hb4
        clear hr4 hb4
        go_wp2
        go_ret2
        have e1 : tellF Q next = p :: m := by unfold tellF; rw [HN2.out]; show p :: (Q p).headD [] = _; rw [HQ.out]; rfl
        have e2 : tellQ Q next = upd Q p ms := by unfold tellQ; rw [HN2.out]; show upd Q p (Q p).tail = _; rw [HQ.out]; rfl
        have e3 : tellN Q next = n2 := by unfold tellN; rw [HN2.out, HNN.out]
        have e4 : (nextOf Q next).isSome = true := by rw [HN2.out]; rfl
        rw [e1, e2, e3, e4]
        exact ⟨A4, c4, _, rfl, HR4.out, RMx.on ⟨_, _, _, _, HN3.out.1⟩ HB4.out, (HN.out.2.trans HN3.out.2).trans (Turn.of_below HB4.out)⟩
    · obtain rfl : k = 8 := by omega
      have HN2 : Hid (nextOf Q next = none) := hnx.out
      clear hnx
      go_wp2
      go_ret2
      have e1 : tellF Q next = [] := by unfold tellF; rw [HN2.out]
      have e2 : tellQ Q next = Q := by unfold tellQ; rw [HN2.out]
      have e3 : tellN Q next = next := by unfold tellN; rw [HN2.out]
      have e4 : (nextOf Q next).isSome = false := by rw [HN2.out]; rfl
      rw [e1, e2, e3, e4]
      exact ⟨none, 0, F, rfl, Rd.nil _ _ _, HX.out, Turn.refl F w⟩
set_option maxRecDepth 100000 in
theorem rmux_take {w : World} {B gx room next : Nat} {Q : Nat → List (List Nat)} {F : Nat → Prop} (h : RMx w B gx room Q next F) (A : Option Addr) (c : Nat) (l : List Nat) (hcap : l.length ≤ c) (hl : l.length ≤ 140737488355328) (hby : Byt l) (hA : Rd w.heap.size w A (u8s l)) :
    Calls Try.prog 46 #[.pointer (some ⟨gx, 0, none⟩), .slice A l.length c] w fun e w' => ∃ F', e = .returned (.int .i64 (takeE room Q l : Nat)) ∧ RMx w' B gx room (takeQ room Q l) next F' ∧ Turn F F' w w' := by
  have HX := hide h
  have HG := hide (rget_any A c l hcap hl hby w hA)
  clear hA hcap hl hby
  unfold takeE takeQ
  cases hok : getOk l with
  | true =>
    have hp8 := getP_lt hok
    have hE : getE l = 0 := by unfold getE; rw [hok]; rfl
    rw [if_pos rfl, if_pos rfl]
    obtain ⟨p, hp⟩ : ∃ p, p = getP l := ⟨_, rfl⟩
    obtain ⟨m, hm⟩ : ∃ m, m = getM l := ⟨_, rfl⟩
    rw [← hp] at hp8 ⊢
    rw [← hm]
    have HG2 : Hid (Calls Try.prog 41 #[.slice A l.length c] w fun e w' => ∃ A c, e = .returned (.tuple #[.int .i64 (p : Nat), .slice A m.length c, .int .i64 0]) ∧ Rd w'.heap.size w' A (u8s m) ∧ Below w.heap.size w w') := by
      refine HG.out.mono ?_
      rintro e w' ⟨A, c, he, ho, hb⟩
      rw [hE, ← hp, ← hm] at he
      rw [← hm] at ho
      exact ⟨A, c, he, own_rd ho, hb⟩
    have HP8 := hide hp8
    have hp7 : (p : Int) < 8 := by omega
    have hp0 : (0 : Int) ≤ (p : Int) := by omega
    clear hok hE hp hm HG h
    go_enter Try.func46, Try.ntmps46
    go_wp2_with fail
    refine HG2.out.mono ?_; rintro e w1 ⟨A1, c1, rfl, hr, hb⟩
    obtain ⟨gs, Fs, gr, cr, h⟩ := HX.out.on hb
    have HQP := hide (rque_push (h.q p HP8.out) A1 c1 m hr)
    have HPUT := hide (fun (w' : World) (F' : Nat → Prop) (L : List (List Nat)) (ht : Turn (Fs p) F' w1 w') (hq : RQu w' B (gs p) room L F') => h.put HP8.out ht hq)
    have c0 : w1.cell? ⟨gx, 0, none⟩ = some (.slice (some ⟨gr, 0, none⟩) 8 cr) := h.blk.cell rfl
    have cq : w1.cell? ⟨gr, p, none⟩ = some (.pointer (some ⟨gs p, 0, none⟩)) := h.row p HP8.out
    have HB := hide hb
    clear h hr hb hp8
    go_wp2_with fail
    refine HQP.out.mono ?_; rintro e w2 ⟨F', rfl, hq, ht⟩
    have HN := hide (HPUT.out w2 F' _ ht hq)
    clear hq ht
    go_wp2
    go_ret
    exact ⟨_, rfl, ⟨_, _, _, _, HN.out.1⟩, (Turn.of_below HB.out).trans HN.out.2⟩
  | false =>
    have hE : getE l = 130 := by unfold getE; rw [hok]; rfl
    rw [if_neg (by simp), if_neg (by simp)]
    have HG2 : Hid (Calls Try.prog 41 #[.slice A l.length c] w fun e w' => ∃ p m A c, e = .returned (.tuple #[.int .i64 (p : Nat), .slice A m c, .int .i64 130]) ∧ Below w.heap.size w w') := by
      refine HG.out.mono ?_
      rintro e w' ⟨A, c, he, ho, hb⟩
      rw [hE] at he
      exact ⟨_, _, A, c, he, hb⟩
    clear hok hE HG h
    go_enter Try.func46, Try.ntmps46
    go_wp2_with fail
    refine HG2.out.mono ?_; rintro e w1 ⟨p, m, A1, c1, rfl, hb⟩
    have HB := hide hb
    clear hb
    go_wp2
    go_ret
    exact ⟨F, rfl, HX.out.on HB.out, Turn.of_below HB.out⟩
/-! ### New -/
/-- a mux of which k queues are made. -/
structure RMxP (w : World) (B gx room k : Nat) (F : Nat → Prop) (gs : Nat → Nat) (Fs : Nat → Nat → Prop) (V : Value) : Prop where
  foot : Foot F B w
  own : F gx
  blk : Blk w gx 78 [V, .int .i64 0]
  row : w.ownsRow (gx + 1) 29 1 V k (ptrs gs k)
  rown : ∀ j, V.ownBlock = some j → F j ∧ ∀ i, i < k → ¬ Fs i j
  q : ∀ i, i < k → RQu w B (gs i) room [] (Fs i)
  sub : ∀ i, i < k → ∀ j, Fs i j → F j ∧ j ≠ gx
  off : ∀ i j, i < k → j < k → i ≠ j → Off (Fs i) (Fs j)
theorem RMxP.step {w w2 w3 : World} {B gx room k g : Nat} {F F' : Nat → Prop} {gs : Nat → Nat} {Fs : Nat → Nat → Prop} {V V' : Value} (h : RMxP w B gx room k F gs Fs V) (hq : RQu w2 w.heap.size g room [] F') (hb : Below w.heap.size w w2)
    (hown : w3.ownsRow (gx + 1) 29 1 V' (k + 1) (ptrs gs k ++ [ptr g])) (hg : w2.grownBy w3 V.ownBlock) (hat : V'.ownBlock = V.ownBlock ∨ V'.ownBlock = some (w2.heap.size + 1)) :
    RMxP (w3.setCell ⟨gx, 0, none⟩ V') B gx room (k + 1) (fun j => F j ∨ (w.heap.size ≤ j ∧ j < w3.heap.size)) (fun i => if i = k then g else gs i) (fun i => if i = k then F' else Fs i) V' := by
  have hs : (w3.setCell ⟨gx, 0, none⟩ V').heap.size = w3.heap.size := by simp [World.setCell]
  have hgx := h.foot gx h.own
  have hbs := hb.size
  have hgs := hg.size
  have hfar : ∀ j, j ≠ gx → (w3.setCell ⟨gx, 0, none⟩ V').heap[j]? = w3.heap[j]? := fun j hj => Below.heap_setCell w3 ⟨gx, 0, none⟩ _ j hj
  have hVl : ∀ j, V.ownBlock = some j → gx < j ∧ j < w.heap.size := fun j hj => own_block_lt h.row hj
  have hV'l := fun j (hj : V'.ownBlock = some j) => own_block_lt hown hj
  have hF' : ∀ j, F' j → w.heap.size ≤ j ∧ j < w2.heap.size := hq.1
  refine ⟨?_, .inl h.own, ?_, ?_, ?_, ?_, ?_, ?_⟩
  · rintro j (hj | hj)
    · have := h.foot j hj; omega
    · omega
  · exact (((h.blk.on hb).grown hg (fun e => by have := hVl gx e.symm; omega)).set 0 V')
  · rw [ptrs_succ, ptrs_congr (gs := fun i => if i = k then g else gs i) (hs := gs) (k := k) (fun i hi => by simp [show i ≠ k by omega])]
    simp only [if_true]
    exact own_keep hown fun j hj => hfar j (by have := (hV'l j hj).1; omega)
  · intro j hj
    have hjl := hV'l j hj
    refine ⟨?_, fun i hi hf => ?_⟩
    · rcases hat with e | e
      · rw [e] at hj; exact .inl (h.rown j hj).1
      · rw [e] at hj; injection hj with hj; exact .inr ⟨by omega, hjl.2⟩
    · by_cases e : i = k
      · simp only [if_pos e] at hf
        have := hF' j hf
        rcases hat with e2 | e2
        · rw [e2] at hj; have := hVl j hj; omega
        · rw [e2] at hj; injection hj with hj; omega
      · simp only [if_neg e] at hf
        rcases hat with e2 | e2
        · rw [e2] at hj; exact (h.rown j hj).2 i (by omega) hf
        · rw [e2] at hj; injection hj with hj
          have := (h.foot j (h.sub i (by omega) j hf).1).2
          omega
  · intro i hi
    by_cases e : i = k
    · subst e
      simp only [if_true]
      exact (hq.base (by omega)).kept (fun j hj => (hfar j (by have := hF' j hj; omega)).trans (hg.block j (hF' j hj).2 (fun e => by have := hVl j e.symm; have := hF' j hj; omega))) (by omega)
    · simp only [if_neg e]
      have hil : i < k := by omega
      exact (h.q i hil).kept (fun j hj => ((hfar j (h.sub i hil j hj).2).trans (hg.block j (by have := (h.foot j (h.sub i hil j hj).1).2; omega) (fun e => (h.rown j e.symm).2 i hil hj))).trans (hb.block j (h.foot j (h.sub i hil j hj).1).2)) (by omega)
  · intro i hi j hj
    by_cases e : i = k
    · simp only [if_pos e] at hj
      have := hF' j hj
      exact ⟨.inr ⟨by omega, by omega⟩, by omega⟩
    · simp only [if_neg e] at hj
      exact ⟨.inl (h.sub i (by omega) j hj).1, (h.sub i (by omega) j hj).2⟩
  · intro i j hi hj hne x h1 h2
    have hnew : ∀ i', i' < k → F' x → Fs i' x → False := fun i' hi' hf hf2 => by
      have := (hF' x hf).1
      have := (h.foot x (h.sub i' hi' x hf2).1).2
      omega
    by_cases e1 : i = k
    · by_cases e2 : j = k
      · exact hne (e1.trans e2.symm)
      · simp only [if_pos e1] at h1
        simp only [if_neg e2] at h2
        exact hnew j (by omega) h1 h2
    · by_cases e2 : j = k
      · simp only [if_neg e1] at h1
        simp only [if_pos e2] at h2
        exact hnew i (by omega) h2 h1
      · simp only [if_neg e1] at h1
        simp only [if_neg e2] at h2
        exact h.off i j (by omega) (by omega) hne x h1 h2
set_option maxRecDepth 100000 in
set_option maxHeartbeats 1000000 in
theorem rmux_new (R : Nat) (hR : 1 ≤ R) (hR2 : R ≤ 16) (w : World) :
    Calls Try.prog 42 #[.int .i64 (R : Nat)] w fun e w' => ∃ gx F, e = .returned (.tuple #[.pointer (some ⟨gx, 0, none⟩), .int .i64 0]) ∧ RMx w' w.heap.size gx R emptyQ 0 F ∧ Below w.heap.size w w' := by
  obtain ⟨i0, hi, hz0, hz1, hz2⟩ := info_parts Try.infP
  have HN := hide (fun W => rque_new (R : Int) (by omega) (by omega) W)
  rw [Int.toNat_natCast] at HN
  clear hR hR2
  go_enter Try.func42, Try.ntmps42
  go_wp2
  go_loopw [5] (fun i wr => ∃ k : Nat, k ≤ 8 ∧ i = .int .i64 k ∧ Hid (∃ F gs Fs V, RMxP wr w.heap.size w.heap.size R k F gs Fs V) ∧ Hid (Below w.heap.size w wr)) (fun i _ => 8 - (intOf i).toNat)
  case atStart =>
    refine ⟨0, by omega, rfl, ⟨fun k => k = w.heap.size, fun _ => 0, fun _ _ => False, .slice none 0 0, ⟨?_, rfl, Blk.new w _ _, World.ownsRow_nil _ _ _ _, (fun j h => by cases h), fun i h => absurd h (by omega), fun i h => absurd h (by omega), fun i j h => absurd h (by omega)⟩⟩, (Below.refl _ _).alloc (Nat.le_refl _) _⟩
    rintro k rfl
    exact ⟨Nat.le_refl _, (Blk.new w _ _).lt⟩
  case round =>
    obtain ⟨k, hk, rfl, hm, HB⟩ := hrel
    obtain ⟨F, gs, Fs, V, hp⟩ := hm.out
    obtain ⟨VA, cV, rfl, _⟩ := own_val hp.row
    have HP := hide hp
    clear hm hp
    by_cases hlt : k < 8
    · have g1 : k + 1 ≤ 9223372036854775807 := by omega
      have g2 : (k + 1) * 8 ≤ 140737488355328 := by omega
      go_wp2_with fail
      refine (HN.out _).mono ?_; rintro e w2 ⟨g, F', rfl, hq, hb⟩
      have hb2 := HP.out.blk.on hb
      have ck : w2.cell? ⟨w.heap.size, 0, none⟩ = some (.slice VA k cV) := hb2.cell rfl
      have hrow := own_on HP.out.row hb
      have HGL : Hid (w.heap.size + 1 ≤ w2.heap.size) := by show _ ≤ _; have := (HP.out.foot _ HP.out.own).2; have := hb.size; omega
      have HQ := hide hq
      have HBB := hide hb
      have HB2 := hide hb2
      clear hq hb hb2
      go_wp2_with (at_builtin; refine wpList_app1 _ rfl (.tmp 26) (.tmp 28) 76 rfl (w.heap.size + 1) 29 i0 (.pointer none) 8 Try.underlying76 hi hz0 hz1 hz2 rfl _ _ _ rfl hrow _ rfl (by rfl) g1 g2 HGL.out ?_; intro v' w3 hown1 hg1 hat1; obtain ⟨A', c', rfl, _⟩ := own_val hown1; have hb3 := HB2.out.grown hg1 (fun e => by have := own_block_lt hrow e.symm; omega); have d3 : w3.cell? ⟨w.heap.size, 0, none⟩ = some (.slice VA k cV) := hb3.cell rfl; have f3 : w3.frozen? ⟨w.heap.size, 0, none⟩ = false := hb3.free 0; clear hb3)
      have HN2 := hide (HP.out.step HQ.out HBB.out hown1 hg1 hat1)
      have HB3 := hide ((below_app (below2 HB.out HBB.out (Nat.le_refl _)) (own_more hrow (Nat.le_succ _)) hg1 (by have := HGL.out; omega)).setCell (p := ⟨w.heap.size, 0, none⟩) (Nat.le_refl _) (.slice A' (k + 1) c'))
      clear hown1 hg1 hat1 hrow
      go_roundw
      case rel => exact ⟨k + 1, by omega, by go_num, ⟨_, _, _, _, HN2.out⟩, HB3.out⟩
      case measure => simp [intOf]; omega
    · obtain rfl : k = 8 := by omega
      go_wp2
      go_ret2
      obtain ⟨gr, e1, hg1, hg2⟩ := own_where HP.out.row (by omega)
      subst e1
      refine ⟨_, F, rfl, ⟨gs, Fs, gr, cV, ⟨HP.out.foot, HP.out.own, by omega, HP.out.blk, fun i hi => own_cell HP.out.row (ptrs_at gs hi), ⟨(HP.out.rown gr rfl).1, by omega, (HP.out.rown gr rfl).2⟩, HP.out.q, HP.out.sub, HP.out.off⟩⟩, HB.out⟩
theorem rmux_bad (r : Int) (hr : r < 1 ∨ 16 < r) (w : World) : Calls Try.prog 42 #[.int .i64 r] w fun e w' => e = .returned (.tuple #[.pointer none, .int .i64 1]) ∧ Below w.heap.size w w' := by
  have HN := hide (fun W => rque_bad r hr W)
  clear hr
  go_enter Try.func42, Try.ntmps42
  go_wp2
  go_loopw [5] (fun i wr => i = .int .i64 0 ∧ Hid (Below w.heap.size w wr)) (fun i _ => 0)
  case atStart => exact ⟨rfl, (Below.refl _ _).alloc (Nat.le_refl _) _⟩
  case round =>
    obtain ⟨rfl, HB⟩ := hrel
    go_wp2_with fail
    refine (HN.out _).mono ?_; rintro e w2 ⟨rfl, rfl⟩
    go_wp2
    go_ret2
    exact ⟨rfl, HB.out⟩
end Go.Proofs.Ytfcappddncnglaa
