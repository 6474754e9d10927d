/- Layer 40: the law MuxTurns: its plain law, and the walk. No conditions. -/
import Derived.Test.YtfcappddncnglaaMuxG
import Derived.Test.YtfcappddncnglaaInM
namespace Go.Proofs.Ytfcappddncnglaa
open Go.RowKit
set_option linter.unusedVariables false

theorem nf_some {Q : Nat → List (List Nat)} {next p : Nat} : ∀ f i, nf Q next i f = some p → ∃ j, i ≤ j ∧ j < i + f ∧ p = (next + j) % 8 ∧ Q p ≠ [] ∧ ∀ k, i ≤ k → k < j → Q ((next + k) % 8) = []
  | 0, i, h => by cases h
  | f + 1, i, h => by
    unfold nf at h
    by_cases e : Q ((next + i) % 8) = []
    · rw [if_pos e] at h
      obtain ⟨j, h1, h2, h3, h4, h5⟩ := nf_some f (i + 1) h
      refine ⟨j, by omega, by omega, h3, h4, fun k hk hkj => ?_⟩
      by_cases e2 : k = i
      · subst e2; exact e
      · exact h5 k (by omega) hkj
    · rw [if_neg e] at h
      injection h with h
      exact ⟨i, Nat.le_refl _, by omega, h.symm, by rw [← h]; exact e, fun k hk hkj => by omega⟩
theorem next_some {Q : Nat → List (List Nat)} {next p : Nat} (h : nextOf Q next = some p) : p < 8 ∧ Q p ≠ [] ∧ ∃ j, j < 8 ∧ p = (next + j) % 8 ∧ ∀ k, k < j → Q ((next + k) % 8) = [] := by
  obtain ⟨j, _, h2, h3, h4, h5⟩ := nf_some 8 0 h
  exact ⟨by omega, h4, j, by omega, h3, fun k hk => h5 k (Nat.zero_le _) hk⟩
/-- which ports were told since the port's own turn. -/
def Seen (s : List Nat) (next P : Nat) : Prop := s.length = 8 ∧ ∀ x, x < 8 → ∃ v, s[x]? = some v ∧ v ≤ 1 ∧ (v = 1 → (x + 7 - P) % 8 < (next + 7 - P) % 8)
theorem seen_zero (next P : Nat) : Seen (List.replicate 8 0) next P := ⟨rfl, fun x hx => ⟨0, by rw [List.getElem?_replicate, if_pos hx], by omega, by omega⟩⟩
theorem seen_step {s : List Nat} {next P p : Nat} {Q : Nat → List (List Nat)} (hs : Seen s next P) (hP : P < 8) (hn : next < 8) (hno : nextOf Q next = some p) (hQ : Q P ≠ []) (hne : p ≠ P) :
    s[p]? = some 0 ∧ Seen (s.set p 1) ((p + 1) % 8) P := by
  obtain ⟨hp8, hQp, j, hj, hpj, hall⟩ := next_some hno
  have hPj : j ≤ (P + 8 - next) % 8 := by
    apply Classical.byContradiction
    intro hlt
    exact hQ (by have := hall ((P + 8 - next) % 8) (by omega); rw [show (next + (P + 8 - next) % 8) % 8 = P by omega] at this; exact this)
  have hd : (next + 7 - P) % 8 ≤ (p + 7 - P) % 8 := by omega
  have hd2 : ((p + 1) % 8 + 7 - P) % 8 = (p + 7 - P) % 8 + 1 := by omega
  obtain ⟨v, hv, hv1, hv2⟩ := hs.2 p hp8
  have hv0 : v = 0 := by
    apply Classical.byContradiction
    intro h
    have := hv2 (by omega)
    omega
  subst hv0
  refine ⟨hv, by simp [hs.1], fun x hx => ?_⟩
  by_cases e : p = x
  · subst e
    exact ⟨1, by rw [List.getElem?_set_self (by rw [hs.1]; exact hx)], by omega, fun _ => by omega⟩
  · obtain ⟨u, hu, hu1, hu2⟩ := hs.2 x hx
    exact ⟨u, by rw [List.getElem?_set_ne e]; exact hu, hu1, fun h => by have := hu2 h; omega⟩
/-! ### the walk -/
def SmallQ (Q : Nat → List (List Nat)) : Prop := ∀ i, i < 8 → ∀ m ∈ Q i, m.length ≤ 63
theorem small_push {R : Nat} {Q : Nat → List (List Nat)} (h : SmallQ Q) (p : Int) (m : List Nat) : SmallQ (mpushL R Q p m) := by
  unfold mpushL
  by_cases hp : putE p m = 0
  · rw [if_pos hp]
    obtain ⟨h0, h8, h63, _⟩ := putE_ok hp
    refine upd_small h ?_
    intro x hx
    unfold pushL at hx
    have ho : ∀ x ∈ Q p.toNat, x.length ≤ 63 := h p.toNat (by omega)
    split at hx
    · exact ho x hx
    · split at hx
      · exact ho x hx
      · rcases List.mem_append.1 hx with e | e
        · exact ho x e
        · simp at e; subst e; exact h63
  · rw [if_neg hp]; exact h
theorem small_tell {Q : Nat → List (List Nat)} (h : SmallQ Q) (next : Nat) : SmallQ (tellQ Q next) := by
  unfold tellQ
  cases hno : nextOf Q next with
  | none => exact h
  | some p => exact upd_small h fun m hm => h p (next_some hno).1 m (List.mem_of_mem_tail hm)
theorem mux_lenN {w : World} {B gx room next : Nat} {Q : Nat → List (List Nat)} {F : Nat → Prop} (h : Mx w B gx room Q next F) {P : Nat} (hP : P < 8) :
    Calls Try.prog 36 #[.pointer (some ⟨gx, 0, none⟩), .int .i64 (P : Nat)] w fun e w' => e = .returned (.int .i64 ((Q P).length : Nat)) ∧ w = w' := by
  have := mux_len h (P : Int)
  rw [if_pos (by omega), Int.toNat_natCast] at this
  exact this
theorem mux_next0 {w : World} {B gx room next : Nat} {Q : Nat → List (List Nat)} {F : Nat → Prop} (h : Mx w B gx room Q next F) (hsm : SmallQ Q) (hno : nextOf Q next = none) :
    Calls Try.prog 37 #[.pointer (some ⟨gx, 0, none⟩)] w fun e w' => ∃ A c, e = .returned (.tuple #[.slice A 0 c, .bool false]) ∧ Mx w' B gx room Q next F ∧ Turn F F w w' := by
  refine (mux_next h hsm).mono ?_
  rintro e w' ⟨A, c, he, ho, hm, ht⟩
  have e1 : tellF Q next = [] := by unfold tellF; rw [hno]
  have e2 : tellQ Q next = Q := by unfold tellQ; rw [hno]
  have e3 : tellN Q next = next := by unfold tellN; rw [hno]
  rw [e2, e3] at hm
  rw [e1, hno] at he
  exact ⟨A, c, he, hm, ht⟩
theorem mux_next1 {w : World} {B gx room next p : Nat} {Q : Nat → List (List Nat)} {F : Nat → Prop} (h : Mx w B gx room Q next F) (hsm : SmallQ Q) (hno : nextOf Q next = some p) :
    Calls Try.prog 37 #[.pointer (some ⟨gx, 0, none⟩)] w fun e w' => ∃ g c n, e = .returned (.tuple #[.slice (some ⟨g, 0, none⟩) (n + 1 : Nat) c, .bool true]) ∧ w'.cell? ⟨g, 0, none⟩ = some (.int .u8 (p : Nat)) ∧ w.heap.size ≤ g ∧ g < w'.heap.size ∧ n ≤ 64 ∧ Mx w' B gx room (tellQ Q next) ((p + 1) % 8) F ∧ Turn F F w w' := by
  refine (mux_next h hsm).mono ?_
  rintro e w' ⟨A, c, he, ho, hm, ht⟩
  have e1 : tellF Q next = p :: (Q p).headD [] := by unfold tellF; rw [hno]
  have e3 : tellN Q next = (p + 1) % 8 := by unfold tellN; rw [hno]
  rw [e3] at hm
  rw [e1] at ho he
  rw [hno] at he
  obtain ⟨g, rfl, h1, h2⟩ := own_where ho (by simp)
  have hl : ((Q p).headD []).length ≤ 64 := by
    have := hsm p (next_some hno).1
    cases hQ : Q p with
    | nil => simp
    | cons m ms => rw [hQ] at this; have := this m (by simp); simp; omega
  exact ⟨g, c, ((Q p).headD []).length, he, own_cell ho rfl, h1, h2, hl, hm, ht⟩
/-- the mux beside what was seen. -/
structure Turns (w0 w : World) (gx : Nat) (P : Nat) (V : Value) (Q : Nat → List (List Nat)) (next : Nat) (F : Nat → Prop) (s : List Nat) : Prop where
  m : Mx w w0.heap.size gx 16 Q next F
  small : SmallQ Q
  row : w.ownsRow w0.heap.size 3 1 V 8 (n64s s)
  off : ∀ k, V.ownBlock = some k → ¬ F k
  seen : Seen s next P
  bel : Below w0.heap.size w0 w
theorem Turns.turn {w0 w w2 : World} {gx P next next' : Nat} {V : Value} {Q Q' : Nat → List (List Nat)} {F F' : Nat → Prop} {s : List Nat} (h : Turns w0 w gx P V Q next F s) (ht : Turn F F' w w2) (hm : Mx w2 w0.heap.size gx 16 Q' next' F') (hs : SmallQ Q') (hseen : Seen s next' P) : Turns w0 w2 gx P V Q' next' F' s :=
  ⟨hm, hs, own_keep h.row fun k hk => ht.block k (own_block_lt h.row hk).2 (h.off k hk), fun k hk hf => (ht.new k hf).elim (h.off k hk) (by have := (own_block_lt h.row hk).2; omega), hseen, ht.below h.bel h.m.foot h.bel.size⟩
/-- one was told, and counted. -/
theorem Turns.told {w0 w w2 : World} {gx P next next' gV cV : Nat} {Q Q' : Nat → List (List Nat)} {F : Nat → Prop} {s : List Nat} (h : Turns w0 w gx P (.slice (some ⟨gV, 0, none⟩) 8 cV) Q next F s) (ht : Turn F F w w2) (hm : Mx w2 w0.heap.size gx 16 Q' next' F) (p v : Nat) :
    Mx (w2.setCell ⟨gV, p, none⟩ (.int .i64 (v : Nat))) w0.heap.size gx 16 Q' next' F ∧ (w2.setCell ⟨gV, p, none⟩ (.int .i64 (v : Nat))).ownsRow w0.heap.size 3 1 (.slice (some ⟨gV, 0, none⟩) 8 cV) 8 (n64s (s.set p v)) ∧ Below w0.heap.size w0 (w2.setCell ⟨gV, p, none⟩ (.int .i64 (v : Nat))) ∧
      w2.ownsRow w0.heap.size 3 1 (.slice (some ⟨gV, 0, none⟩) 8 cV) 8 (n64s s) ∧ ¬ F gV ∧ gV < w.heap.size := by
  have hr2 : w2.ownsRow w0.heap.size 3 1 (.slice (some ⟨gV, 0, none⟩) 8 cV) 8 (n64s s) := own_keep h.row fun k hk => ht.block k (own_block_lt h.row hk).2 (h.off k hk)
  have hF : ¬ F gV := h.off gV rfl
  have hlt := own_lt h.row
  have hba := own_base h.row
  refine ⟨hm.kept (fun k hk => Below.heap_setCell w2 ⟨gV, p, none⟩ _ k (fun e => hF (by simp only at e; exact e ▸ hk))) (by simp [World.setCell]), ?_, (ht.below h.bel h.m.foot h.bel.size).setCell (p := ⟨gV, p, none⟩) hba _, hr2, hF, hlt⟩
  rw [← n64s_set]
  exact own_store hr2 p (.int .i64 (v : Nat))
theorem Turns.fresh {w0 w w2 : World} {gx P next : Nat} {Q : Nat → List (List Nat)} {F : Nat → Prop} {V : Value} (hm : Mx w w0.heap.size gx 16 Q next F) (hs : SmallQ Q) (hb : Below w0.heap.size w0 w) (hown : w2.ownsRow w0.heap.size 3 1 V 8 (n64s (List.replicate 8 0))) (hV : ∀ k, V.ownBlock = some k → w.heap.size ≤ k) (hb2 : Below w.heap.size w w2) :
    Turns w0 w2 gx P V Q next F (List.replicate 8 0) :=
  ⟨hm.on hb2, hs, hown, fun k hk hf => by have := (hm.foot k hf).2; have := hV k hk; omega, seen_zero _ _, below2 hb hb2 (Nat.le_refl _)⟩
end Go.Proofs.Ytfcappddncnglaa
