/- Layer 40's Mux, by what it does in memory: New, Next, Take, Pop, Len. No conditions. -/
import Derived.Test.YtfcappddncnglaaMuxD
import Derived.Test.YtfcappddncnglaaQueN
namespace Go.Proofs.Ytfcappddncnglaa
open Go.RowKit
set_option linter.unusedVariables false

theorem mux_len {w : World} {B gx room next : Nat} {Q : Nat → List (List Nat)} {F : Nat → Prop} (h : Mx w B gx room Q next F) (p : Int) :
    Calls Try.prog 36 #[.pointer (some ⟨gx, 0, none⟩), .int .i64 p] w fun e w' => e = .returned (.int .i64 (if 0 ≤ p ∧ p < 8 then (Q p.toNat).length else 0 : Nat)) ∧ w = w' := by
  have HI := hide (mux_is h)
  have HR := hide (right_any p w)
  by_cases hp : 0 ≤ p ∧ p < 8
  · rw [if_pos hp]
    obtain ⟨q, rfl⟩ := Int.eq_ofNat_of_zero_le hp.1
    have hq8 : q < 8 := by omega
    rw [show decide (0 ≤ (q : Int) ∧ (q : Int) < 8) = true by simp; omega] at HR
    obtain ⟨gs, Fs, h⟩ := h
    have HL := hide (que_len (h.q q hq8))
    have cq : w.cell? ⟨gx, q, none⟩ = some (.pointer (some ⟨gs q, 0, none⟩)) := h.blk.cell (nine_at _ _ hq8)
    clear h hq8
    have hq7 : (q : Int) < 8 := hp.2
    clear hp
    rw [Int.toNat_natCast]
    go_enter Try.func36, Try.ntmps36
    go_wp2_with fail
    refine HI.out.mono ?_; rintro e w' ⟨rfl, rfl⟩
    go_wp2_with fail
    refine HR.out.mono ?_; rintro e w' ⟨rfl, rfl⟩
    go_wp2_with fail
    refine HL.out.mono ?_; rintro e w' ⟨rfl, rfl⟩
    go_wp2
    go_ret
    exact ⟨rfl, rfl⟩
  · rw [if_neg hp]
    rw [show decide (0 ≤ p ∧ p < 8) = false by simp; omega] at HR
    clear hp h
    go_enter Try.func36, Try.ntmps36
    go_wp2_with fail
    refine HI.out.mono ?_; rintro e w' ⟨rfl, rfl⟩
    go_wp2_with fail
    refine HR.out.mono ?_; rintro e w' ⟨rfl, rfl⟩
    go_wp2
    go_ret
    exact ⟨rfl, rfl⟩
/-- what Pop tells, and leaves. -/
def mpopF (Q : Nat → List (List Nat)) (p : Int) : List Nat := if 0 ≤ p ∧ p < 8 then (getAt (Q p.toNat) 0).getD [] else []
def mpopB (Q : Nat → List (List Nat)) (p : Int) : Bool := if 0 ≤ p ∧ p < 8 then (getAt (Q p.toNat) 0).isSome else false
def mpopQ (Q : Nat → List (List Nat)) (p : Int) : Nat → List (List Nat) := if 0 ≤ p ∧ p < 8 then upd Q p.toNat (Q p.toNat).tail else Q
def MPopR (w : World) (B gx room : Nat) (Q : Nat → List (List Nat)) (next : Nat) (F : Nat → Prop) (f : List Nat) (b : Bool) (Q' : Nat → List (List Nat)) (next' : Nat) (e : Ending) (w' : World) : Prop :=
  ∃ A c, e = .returned (.tuple #[.slice A f.length c, .bool b]) ∧ w'.ownsRow w.heap.size 5 1 (.slice A f.length c) f.length (u8s f) ∧ Mx w' B gx room Q' next' F ∧ Turn F F w w'
theorem mux_pop {w : World} {B gx room next : Nat} {Q : Nat → List (List Nat)} {F : Nat → Prop} (h : Mx w B gx room Q next F) (p : Int) :
    Calls Try.prog 47 #[.pointer (some ⟨gx, 0, none⟩), .int .i64 p] w (MPopR w B gx room Q next F (mpopF Q p) (mpopB Q p) (mpopQ Q p) next) := by
  have HI := hide (mux_is h)
  have HR := hide (right_any p w)
  have HX := hide h
  unfold mpopF mpopB mpopQ
  by_cases hp : 0 ≤ p ∧ p < 8
  · rw [if_pos hp, if_pos hp, if_pos hp]
    obtain ⟨q, rfl⟩ := Int.eq_ofNat_of_zero_le hp.1
    have hq8 : q < 8 := by omega
    rw [show decide (0 ≤ (q : Int) ∧ (q : Int) < 8) = true by simp; omega] at HR
    obtain ⟨gs, Fs, h⟩ := h
    rw [Int.toNat_natCast]
    have HL := hide (que_popV (h.q q hq8))
    have HPUT := hide (fun (w' : World) (L : List (List Nat)) (ht : Turn (Fs q) (Fs q) w w') (hq : Qu w' B (gs q) room L (Fs q)) => h.putSame hq8 ht hq)
    have cq : w.cell? ⟨gx, q, none⟩ = some (.pointer (some ⟨gs q, 0, none⟩)) := h.blk.cell (nine_at _ _ hq8)
    obtain ⟨f, hf⟩ : ∃ f, f = (getAt (Q q) 0).getD [] := ⟨_, rfl⟩
    obtain ⟨b, hb⟩ : ∃ b, b = (getAt (Q q) 0).isSome := ⟨_, rfl⟩
    rw [← hf, ← hb] at HL ⊢
    clear h hq8 hf hb
    have hq7 : (q : Int) < 8 := hp.2
    clear hp
    go_enter Try.func47, Try.ntmps47
    go_wp2_with fail
    refine HI.out.mono ?_; rintro e w' ⟨rfl, rfl⟩
    go_wp2_with fail
    refine HR.out.mono ?_; rintro e w' ⟨rfl, rfl⟩
    go_wp2_with fail
    refine HL.out.mono ?_; rintro e w2 ⟨A, c, rfl, ho, hq, ht⟩
    have HN := hide (HPUT.out w2 _ ht hq)
    have HO := hide ho
    clear ho hq ht
    go_wp2
    go_ret2
    exact ⟨A, c, rfl, HO.out, ⟨_, _, HN.out.1⟩, HN.out.2⟩
  · rw [if_neg hp, if_neg hp, if_neg hp]
    rw [show decide (0 ≤ p ∧ p < 8) = false by simp; omega] at HR
    clear hp h
    go_enter Try.func47, Try.ntmps47
    go_wp2_with fail
    refine HI.out.mono ?_; rintro e w' ⟨rfl, rfl⟩
    go_wp2_with fail
    refine HR.out.mono ?_; rintro e w' ⟨rfl, rfl⟩
    go_wp2
    go_ret2
    exact ⟨none, 0, rfl, World.ownsRow_nil _ _ _ _, HX.out, Turn.refl F w⟩
/-! ### Next -/
def nf (Q : Nat → List (List Nat)) (next : Nat) : Nat → Nat → Option Nat
  | _, 0 => none
  | i, f + 1 => if Q ((next + i) % 8) = [] then nf Q next (i + 1) f else some ((next + i) % 8)
def nextOf (Q : Nat → List (List Nat)) (next : Nat) : Option Nat := nf Q next 0 8
def tellF (Q : Nat → List (List Nat)) (next : Nat) : List Nat := match nextOf Q next with | none => [] | some p => p :: (Q p).headD []
def tellQ (Q : Nat → List (List Nat)) (next : Nat) : Nat → List (List Nat) := match nextOf Q next with | none => Q | some p => upd Q p (Q p).tail
def tellN (Q : Nat → List (List Nat)) (next : Nat) : Nat := match nextOf Q next with | none => next | some p => (p + 1) % 8
theorem upd_nil (Q : Nat → List (List Nat)) {p : Nat} (h : Q p = []) : upd Q p [] = Q := by
  funext i; unfold upd; by_cases e : i = p
  · rw [if_pos e, e, h]
  · rw [if_neg e]
theorem que_popE {w : World} {B g room : Nat} {F : Nat → Prop} (h : Qu w B g room [] F) :
    Calls Try.prog 18 #[.pointer (some ⟨g, 0, none⟩)] w fun e w' => ∃ A c, e = .returned (.tuple #[.slice A 0 c, .bool false]) ∧ Qu w' B g room [] F ∧ Turn F F w w' := by
  refine (que_pop h).mono ?_
  rintro e w' ⟨A, c, he, ho, hq, ht⟩
  exact ⟨A, c, he, hq, ht⟩
theorem put_in (p : Nat) (hp : p < 8) (A : Option Addr) (c : Nat) (m : List Nat) (hm : m.length ≤ 63) (w : World) (hA : Rd w.heap.size w A (u8s m)) :
    Calls Try.prog 38 #[.int .i64 (p : Nat), .slice A m.length c] w fun e w' => ∃ A c, e = .returned (.tuple #[.slice A (m.length + 1) c, .int .i64 0]) ∧ w'.ownsRow w.heap.size 5 1 (.slice A (m.length + 1) c) (m.length + 1) (u8s (p :: m)) ∧ Below w.heap.size w w' := by
  have hE : putE (p : Int) m = 0 := by unfold putE; rw [if_neg (by omega), if_neg (by omega)]
  have hM := (putE_ok hE).2.2.2
  have h := put_any (p : Int) A c m w hA
  unfold PutR at h
  rw [hE, hM] at h
  exact h
set_option maxRecDepth 100000 in
set_option maxHeartbeats 2000000 in
theorem mux_next {w : World} {B gx room next : Nat} {Q : Nat → List (List Nat)} {F : Nat → Prop} (h : Mx w B gx room Q next F) (hsm : ∀ i, i < 8 → ∀ m ∈ Q i, m.length ≤ 63) :
    Calls Try.prog 37 #[.pointer (some ⟨gx, 0, none⟩)] w (MPopR w B gx room Q next F (tellF Q next) (nextOf Q next).isSome (tellQ Q next) (tellN Q next)) := by
  have HI := hide (mux_is h)
  have HX := hide h
  have HS := hide hsm
  have hn8 : next < 8 := by obtain ⟨_, _, h⟩ := h; exact h.lt
  clear h hsm
  go_enter Try.func37, Try.ntmps37
  go_wp2_with fail
  refine HI.out.mono ?_; rintro e w' ⟨rfl, rfl⟩
  go_wp2
  go_loopw [13] (fun i wr => ∃ k : Nat, k ≤ 8 ∧ i = .int .i64 k ∧ Hid (nextOf Q next = nf Q next k (8 - k)) ∧ Hid (Mx wr B gx room Q next F) ∧ Hid (Turn F F w wr)) (fun i _ => 8 - (intOf i).toNat)
  case atStart => exact ⟨0, by omega, rfl, rfl, HX, Turn.refl F w⟩
  case round =>
    obtain ⟨k, hk, rfl, hnx, HM, HT⟩ := hrel
    by_cases hlt : k < 8
    · obtain ⟨gs, Fs, h⟩ := HM.out
      obtain ⟨p, hp⟩ : ∃ p, p = (next + k) % 8 := ⟨_, rfl⟩
      have hp8 : p < 8 := by omega
      have hnx2 : nextOf Q next = if Q p = [] then nf Q next (k + 1) (8 - (k + 1)) else some p := by
        rw [hnx.out, show 8 - k = (8 - (k + 1)) + 1 by omega, hp]; rfl
      have c8 : wr.cell? ⟨gx, 8, none⟩ = some (.int .i64 (next : Nat)) := h.blk.cell rfl
      have cp : wr.cell? ⟨gx, p, none⟩ = some (.pointer (some ⟨gs p, 0, none⟩)) := h.blk.cell (nine_at _ _ hp8)
      have HP := hide hp
      have hq := h.q p hp8
      have hpi : ((next : Int) + (k : Int)) % 8 = (p : Int) := by omega
      have hp7 : (p : Int) < 8 := by omega
      have hp0 : (0 : Int) ≤ (p : Int) := by omega
      have HPUT := hide (fun (w' : World) (L : List (List Nat)) (ht : Turn (Fs p) (Fs p) wr w') (hq : Qu w' B (gs p) room L (Fs p)) => h.putSame hp8 ht hq)
      have HP8 := hide hp8
      have HF := hide h.foot
      have HGX := hide h.own
      clear h hp hp8
      cases hQ : Q p with
      | nil =>
        rw [hQ] at hq hnx2
        have HN2 : Hid (nextOf Q next = nf Q next (k + 1) (8 - (k + 1))) := by show _ = _; rw [hnx2, if_pos rfl]
        have HPO := hide (que_popE hq)
        have HQ := hide hQ
        clear hq hnx2 hnx hQ
        go_wp2_with fail
        refine HPO.out.mono ?_; rintro e w2 ⟨A, c, rfl, hq2, ht2⟩
        have HN := hide (HPUT.out w2 _ ht2 hq2)
        clear hq2 ht2
        go_wp2
        go_roundw
        case rel =>
          refine ⟨k + 1, by omega, by go_num, HN2, ?_, HT.out.trans HN.out.2⟩
          have := HN.out.1
          rw [upd_nil Q HQ.out] at this
          exact ⟨_, _, this⟩
        case measure => simp [intOf]; omega
      | cons m ms =>
        rw [hQ] at hq hnx2
        have HN2 : Hid (nextOf Q next = some p) := by show _ = _; rw [hnx2, if_neg (by simp)]
        have HPO := hide (que_pop1 hq)
        have HQ := hide hQ
        have hm63 : m.length ≤ 63 := HS.out p HP8.out m (by rw [hQ]; simp)
        have HM63 := hide hm63
        clear hq hnx2 hnx hQ hm63
        go_wp2_with fail
        refine HPO.out.mono ?_; rintro e w2 ⟨A, c, rfl, ho2, hq2, ht2⟩
        have HN := hide (HPUT.out w2 _ ht2 hq2)
        have d8 : w2.cell? ⟨gx, 8, none⟩ = some (.int .i64 (next : Nat)) := HN.out.1.blk.cell rfl
        have f8 : w2.frozen? ⟨gx, 8, none⟩ = false := HN.out.1.blk.free 8
        obtain ⟨n2, hn2⟩ : ∃ n, n = (p + 1) % 8 := ⟨_, rfl⟩
        have hn2i : ((p : Int) + 1) % 8 = (n2 : Int) := by omega
        have HN3 := hide (HN.out.1.setNext (n := n2) (by omega))
        have hne : ∀ k, (Value.slice A m.length c).ownBlock = some k → k ≠ gx := fun k hk e => by
          have h1 := (own_block_lt ho2 hk).1
          have h2 := (HF.out gx HGX.out).2
          omega
        have HO3 := hide (own_keep ho2 (w' := w2.setCell ⟨gx, 8, none⟩ (.int .i64 (n2 : Nat))) (fun k hk => Below.heap_setCell w2 ⟨gx, 8, none⟩ _ k (hne k hk)))
        have HPU := hide (put_in p HP8.out A c m HM63.out _ (own_rd HO3.out))
        have HNN := hide hn2
        have HS2 := hide ht2.size
        clear ho2 hq2 ht2 hn2 hne
        go_wp2_with fail
        refine HPU.out.mono ?_; rintro e w4 ⟨A4, c4, rfl, ho4, hb4⟩
        have HO4 := hide ho4
        have HB4 := hide hb4
        clear ho4 hb4
        go_wp2
        go_ret2
        have hsz : (w2.setCell ⟨gx, 8, none⟩ (.int .i64 (n2 : Nat))).heap.size = w2.heap.size := by simp [World.setCell]
        have hww := HT.out.size
        have hw2 := HS2.out
        have e1 : tellF Q next = p :: m := by unfold tellF; rw [HN2.out]; show p :: (Q p).headD [] = _; rw [HQ.out]; rfl
        have e2 : tellQ Q next = upd Q p ms := by unfold tellQ; rw [HN2.out]; show upd Q p (Q p).tail = _; rw [HQ.out]; rfl
        have e3 : tellN Q next = n2 := by unfold tellN; rw [HN2.out, HNN.out]
        have e4 : (nextOf Q next).isSome = true := by rw [HN2.out]; rfl
        rw [e1, e2, e3, e4]
        refine ⟨A4, c4, rfl, own_more HO4.out (by omega), Mx.on ⟨_, _, HN3.out.1⟩ HB4.out, ?_⟩
        exact ((HT.out.trans HN.out.2).trans HN3.out.2).trans (Turn.of_below HB4.out)
    · obtain rfl : k = 8 := by omega
      have HN2 : Hid (nextOf Q next = none) := hnx.out
      clear hnx
      go_wp2
      go_ret2
      have e1 : tellF Q next = [] := by unfold tellF; rw [HN2.out]
      have e2 : tellQ Q next = Q := by unfold tellQ; rw [HN2.out]
      have e3 : tellN Q next = next := by unfold tellN; rw [HN2.out]
      have e4 : (nextOf Q next).isSome = false := by rw [HN2.out]; rfl
      rw [e1, e2, e3, e4]
      exact ⟨none, 0, rfl, World.ownsRow_nil _ _ _ _, HM.out, HT.out⟩
end Go.Proofs.Ytfcappddncnglaa
