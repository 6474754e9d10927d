/- Layer 40's Mux: New, Take; the page's example. No conditions. -/
import Derived.Test.YtfcappddncnglaaMuxE
namespace Go.Proofs.Ytfcappddncnglaa
open Go.RowKit
set_option linter.unusedVariables false

theorem Qu.base {w : World} {B B' g room : Nat} {ms : List (List Nat)} {F : Nat → Prop} (h : Qu w B' g room ms F) (hb : B ≤ B') : Qu w B g room ms F := ⟨h.1.down hb, h.2⟩
/-- a mux of which k queues are made. -/
structure MxP (w : World) (B gx room k : Nat) (F : Nat → Prop) (gs : Nat → Nat) (Fs : Nat → Nat → Prop) : Prop where
  foot : Foot F B w
  own : F gx
  blk : Blk w gx 123 (nine (fun i => if i < k then ptr (gs i) else .pointer none) (.int .i64 0))
  q : ∀ i, i < k → Qu w B (gs i) room [] (Fs i)
  sub : ∀ i, i < k → ∀ j, Fs i j → F j ∧ j ≠ gx
  off : ∀ i j, i < k → j < k → i ≠ j → Off (Fs i) (Fs j)
theorem MxP.step {w w2 : World} {B gx room k g : Nat} {F F' : Nat → Prop} {gs : Nat → Nat} {Fs : Nat → Nat → Prop} (h : MxP w B gx room k F gs Fs) (hk : k < 8) (hq : Qu w2 w.heap.size g room [] F') (hb : Below w.heap.size w w2) :
    MxP (w2.setCell ⟨gx, k, none⟩ (ptr g)) B gx room (k + 1) (fun j => F j ∨ F' j) (fun i => if i = k then g else gs i) (fun i => if i = k then F' else Fs i) := by
  have hs : (w2.setCell ⟨gx, k, none⟩ (ptr g)).heap.size = w2.heap.size := by simp [World.setCell]
  have hg := h.foot gx h.own
  have hfar : ∀ j, j ≠ gx → (w2.setCell ⟨gx, k, none⟩ (ptr g)).heap[j]? = w2.heap[j]? := fun j hj => Below.heap_setCell w2 ⟨gx, k, none⟩ _ j hj
  have hF' : ∀ j, F' j → j ≠ gx := fun j hj e => by have := (hq.1 j hj).1; omega
  have hbs := hb.size
  refine ⟨?_, .inl h.own, ?_, ?_, ?_, ?_⟩
  · rintro j (hj | hj)
    · have := h.foot j hj; omega
    · have := hq.1 j hj; omega
  · have := (h.blk.on hb).set k (ptr g)
    rw [nine_set _ _ _ hk] at this
    rw [nine_congr (g := fun i => if i = k then ptr g else if i < k then ptr (gs i) else .pointer none)]
    · exact this
    · intro i hi
      by_cases e : i = k
      · subst e; simp
      · by_cases e2 : i < k
        · simp [e, e2, show i < k + 1 by omega]
        · simp [e, e2, show ¬ i < k + 1 by omega]
  · intro i hi
    by_cases e : i = k
    · subst e
      simp only [if_true]
      exact (hq.base (by omega)).kept (fun j hj => hfar j (hF' j hj)) (by omega)
    · simp only [if_neg e]
      exact (h.q i (by omega)).kept (fun j hj => (hfar j (h.sub i (by omega) j hj).2).trans (hb.block j (h.foot j (h.sub i (by omega) j hj).1).2)) (by omega)
  · intro i hi j hj
    by_cases e : i = k
    · simp only [if_pos e] at hj
      exact ⟨.inr hj, hF' j hj⟩
    · simp only [if_neg e] at hj
      exact ⟨.inl (h.sub i (by omega) j hj).1, (h.sub i (by omega) j hj).2⟩
  · intro i j hi hj hne x h1 h2
    have hnew : ∀ i', i' < k → F' x → Fs i' x → False := fun i' hi' hf hf2 => by
      have := (hq.1 x hf).1
      have := (h.foot x (h.sub i' hi' x hf2).1).2
      omega
    by_cases e1 : i = k
    · by_cases e2 : j = k
      · exact hne (e1.trans e2.symm)
      · simp only [if_pos e1] at h1
        simp only [if_neg e2] at h2
        exact hnew j (by omega) h1 h2
    · by_cases e2 : j = k
      · simp only [if_neg e1] at h1
        simp only [if_pos e2] at h2
        exact hnew i (by omega) h2 h1
      · simp only [if_neg e1] at h1
        simp only [if_neg e2] at h2
        exact h.off i j (by omega) (by omega) hne x h1 h2
def emptyQ : Nat → List (List Nat) := fun _ => []
set_option maxRecDepth 100000 in
set_option maxHeartbeats 1000000 in
theorem mux_new (R : Nat) (hR : 1 ≤ R) (hR2 : R ≤ 16) (w : World) :
    Calls Try.prog 31 #[.int .i64 (R : Nat)] w fun e w' => ∃ gx F, e = .returned (.tuple #[.pointer (some ⟨gx, 0, none⟩), .int .i64 0]) ∧ Mx w' w.heap.size gx R emptyQ 0 F ∧ Below w.heap.size w w' := by
  have HN := hide (fun W => que_new (R : Int) (by omega) (by omega) W)
  rw [Int.toNat_natCast] at HN
  clear hR hR2
  go_enter Try.func31, Try.ntmps31
  go_wp2
  go_loopw [10] (fun i wr => ∃ k : Nat, k ≤ 8 ∧ i = .int .i64 k ∧ Hid (∃ F gs Fs, MxP wr w.heap.size w.heap.size R k F gs Fs) ∧ Hid (Below w.heap.size w wr)) (fun i _ => 8 - (intOf i).toNat)
  case atStart =>
    refine ⟨0, by omega, rfl, ⟨fun k => k = w.heap.size, fun _ => 0, fun _ _ => False, ⟨?_, rfl, Blk.new w _ _, fun i h => absurd h (by omega), fun i h => absurd h (by omega), fun i j h => absurd h (by omega)⟩⟩, (Below.refl _ _).alloc (Nat.le_refl _) _⟩
    rintro k rfl
    exact ⟨Nat.le_refl _, (Blk.new w _ _).lt⟩
  case round =>
    obtain ⟨k, hk, rfl, hm, HB⟩ := hrel
    obtain ⟨F, gs, Fs, hp⟩ := hm.out
    have HP := hide hp
    clear hm hp
    by_cases hlt : k < 8
    · have hk8 : (k : Int) < 8 := by omega
      have hk0 : (0 : Int) ≤ (k : Int) := by omega
      go_wp2_with fail
      refine (HN.out _).mono ?_; rintro e w2 ⟨g, F', rfl, hq, hb⟩
      have hb2 := HP.out.blk.on hb
      have ck : w2.cell? ⟨w.heap.size, k, none⟩ = some (.pointer none) := by
        have := hb2.cell (nine_at (fun i => if i < k then ptr (gs i) else .pointer none) (.int .i64 0) hlt)
        rw [this]; simp
      have fk : w2.frozen? ⟨w.heap.size, k, none⟩ = false := hb2.free k
      have HN2 := hide (HP.out.step hlt hq hb)
      have HB2 := hide ((below2 HB.out hb (Nat.le_refl _)).setCell (p := ⟨w.heap.size, k, none⟩) (Nat.le_refl _) (ptr g))
      clear hq hb hb2
      go_wp2
      go_roundw
      case rel => exact ⟨k + 1, by omega, by go_num, ⟨_, _, _, HN2.out⟩, HB2.out⟩
      case measure => simp [intOf]; omega
    · obtain rfl : k = 8 := by omega
      go_wp2
      go_ret2
      refine ⟨_, F, rfl, ⟨gs, Fs, ⟨HP.out.foot, HP.out.own, by omega, ?_, HP.out.q, HP.out.sub, HP.out.off⟩⟩, HB.out⟩
      exact HP.out.blk
theorem mux_bad (r : Int) (hr : r < 1 ∨ 16 < r) (w : World) : Calls Try.prog 31 #[.int .i64 r] w fun e w' => e = .returned (.tuple #[.pointer none, .int .i64 1]) ∧ Below w.heap.size w w' := by
  have HN := hide (fun W => que_bad r hr W)
  clear hr
  go_enter Try.func31, Try.ntmps31
  go_wp2
  go_loopw [10] (fun i wr => i = .int .i64 0 ∧ Hid (Below w.heap.size w wr)) (fun i _ => 0)
  case atStart => exact ⟨rfl, (Below.refl _ _).alloc (Nat.le_refl _) _⟩
  case round =>
    obtain ⟨rfl, HB⟩ := hrel
    go_wp2_with fail
    refine (HN.out _).mono ?_; rintro e w2 ⟨rfl, rfl⟩
    go_wp2
    go_ret2
    exact ⟨rfl, HB.out⟩
def takeE (room : Nat) (Q : Nat → List (List Nat)) (b : List Nat) : Nat := if getOk b then pushE room (Q (getP b)) (getM b) else 130
def takeQ (room : Nat) (Q : Nat → List (List Nat)) (b : List Nat) : Nat → List (List Nat) := if getOk b then upd Q (getP b) (pushL room (Q (getP b)) (getM b)) else Q
theorem getP_lt {b : List Nat} (h : getOk b = true) : getP b < 8 := by
  unfold getP; rw [h]
  cases b with
  | nil => exact absurd h (by decide)
  | cons x t =>
    have : decide (x < 8 ∧ t.length ≤ 63) = true := h
    have := of_decide_eq_true this
    exact this.1
set_option maxRecDepth 100000 in
theorem mux_take {w : World} {B gx room next : Nat} {Q : Nat → List (List Nat)} {F : Nat → Prop} (h : Mx w B gx room Q next F) (A : Option Addr) (c : Nat) (l : List Nat) (hcap : l.length ≤ c) (hl : l.length ≤ 140737488355328) (hby : Byt l) (hA : Rd w.heap.size w A (u8s l)) :
    Calls Try.prog 45 #[.pointer (some ⟨gx, 0, none⟩), .slice A l.length c] w fun e w' => ∃ F', e = .returned (.int .i64 (takeE room Q l : Nat)) ∧ Mx w' B gx room (takeQ room Q l) next F' ∧ Turn F F' w w' := by
  have HI := hide (mux_is h)
  have HX := hide h
  have HG := hide (get_any A c l hcap hl hby w hA)
  clear hA hcap hl hby
  unfold takeE takeQ
  cases hok : getOk l with
  | true =>
    have hp8 := getP_lt hok
    have hE : getE l = 0 := by unfold getE; rw [hok]; rfl
    rw [if_pos rfl, if_pos rfl]
    obtain ⟨p, hp⟩ : ∃ p, p = getP l := ⟨_, rfl⟩
    obtain ⟨m, hm⟩ : ∃ m, m = getM l := ⟨_, rfl⟩
    rw [← hp] at hp8 ⊢
    rw [← hm]
    have HG2 : Hid (Calls Try.prog 40 #[.slice A l.length c] w fun e w' => ∃ A c, e = .returned (.tuple #[.int .i64 (p : Nat), .slice A m.length c, .int .i64 0]) ∧ Rd w'.heap.size w' A (u8s m) ∧ Below w.heap.size w w') := by
      refine HG.out.mono ?_
      rintro e w' ⟨A, c, he, ho, hb⟩
      rw [hE, ← hp, ← hm] at he
      rw [← hm] at ho
      exact ⟨A, c, he, own_rd ho, hb⟩
    have HP8 := hide hp8
    have hp7 : (p : Int) < 8 := by omega
    have hp0 : (0 : Int) ≤ (p : Int) := by omega
    clear hok hE hp hm HG h
    go_enter Try.func45, Try.ntmps45
    go_wp2_with fail
    refine HI.out.mono ?_; rintro e w' ⟨rfl, rfl⟩
    go_wp2_with fail
    refine HG2.out.mono ?_; rintro e w1 ⟨A1, c1, rfl, hr, hb⟩
    obtain ⟨gs, Fs, h⟩ := HX.out.on hb
    have HQP := hide (que_push (h.q p HP8.out) A1 c1 m hr)
    have HPUT := hide (fun (w' : World) (F' : Nat → Prop) (L : List (List Nat)) (ht : Turn (Fs p) F' w1 w') (hq : Qu w' B (gs p) room L F') => h.put HP8.out ht hq)
    have cq : w1.cell? ⟨gx, p, none⟩ = some (.pointer (some ⟨gs p, 0, none⟩)) := h.blk.cell (nine_at _ _ HP8.out)
    have HB := hide hb
    clear h hr hb hp8
    go_wp2_with fail
    refine HQP.out.mono ?_; rintro e w2 ⟨F', rfl, hq, ht⟩
    have HN := hide (HPUT.out w2 F' _ ht hq)
    clear hq ht
    go_wp2
    go_ret
    exact ⟨_, rfl, ⟨_, _, HN.out.1⟩, (Turn.of_below HB.out).trans HN.out.2⟩
  | false =>
    have hE : getE l = 130 := by unfold getE; rw [hok]; rfl
    rw [if_neg (by simp), if_neg (by simp)]
    have HG2 : Hid (Calls Try.prog 40 #[.slice A l.length c] w fun e w' => ∃ p m A c, e = .returned (.tuple #[.int .i64 (p : Nat), .slice A m c, .int .i64 130]) ∧ Below w.heap.size w w') := by
      refine HG.out.mono ?_
      rintro e w' ⟨A, c, he, ho, hb⟩
      rw [hE] at he
      exact ⟨_, _, A, c, he, hb⟩
    clear hok hE HG h
    go_enter Try.func45, Try.ntmps45
    go_wp2_with fail
    refine HI.out.mono ?_; rintro e w' ⟨rfl, rfl⟩
    go_wp2_with fail
    refine HG2.out.mono ?_; rintro e w1 ⟨p, m, A1, c1, rfl, hb⟩
    have HB := hide hb
    clear hb
    go_wp2
    go_ret
    exact ⟨F, rfl, HX.out.on HB.out, Turn.of_below HB.out⟩
end Go.Proofs.Ytfcappddncnglaa
