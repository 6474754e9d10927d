/- Layer 40: the plain law behind MuxOver, and what its end reads. No conditions. -/
import Derived.Test.YtfcappddncnglaaMuxN
namespace Go.Proofs.Ytfcappddncnglaa
open Go.RowKit
set_option linter.unusedVariables false

/-- what was pushed is what is out, on its way, and still there; q ports of the second are popped empty. -/
structure Lw (k q : Nat) (X Y I O : Nat → List (List Nat)) : Prop where
  eq : ∀ p, p < 8 → I p = O p ++ Y p ++ X p
  len : ∀ p, p < 8 → (I p).length ≤ k
  good : GoodQ I
  one : ∀ p, p < 8 → (Y p).length ≤ 1
  gone : ∀ p, p < q → p < 8 → Y p = []
theorem lw_new : Lw 0 8 emptyQ emptyQ emptyQ emptyQ := ⟨(fun p hp => rfl), (fun p hp => Nat.le_refl 0), (fun i hi m hm => by cases hm), (fun p hp => Nat.zero_le _), (fun p _ _ => rfl)⟩
section
variable {k q : Nat} {X Y I O : Nat → List (List Nat)}
theorem Lw.outLe (h : Lw k q X Y I O) {p : Nat} (hp : p < 8) : (O p).length ≤ (I p).length := by rw [h.eq p hp]; simp
theorem Lw.goodX (h : Lw k q X Y I O) : GoodQ X := fun i hi m hm => h.good i hi m (by rw [h.eq i hi]; exact List.mem_append_right _ hm)
theorem Lw.small (h : Lw k q X Y I O) : SmallQ X := fun i hi m hm => (h.goodX i hi m hm).1
theorem Lw.up (h : Lw k q X Y I O) : Lw (k + 1) q X Y I O := ⟨h.eq, fun p hp => Nat.le_succ_of_le (h.len p hp), h.good, h.one, h.gone⟩
theorem mpushE0 {Q : Nat → List (List Nat)} {pt : Int} {m : List Nat} (h : mpushE 16 Q pt m = 0) : ∃ p : Nat, pt = p ∧ p < 8 ∧ m.length ≤ 63 ∧ mpushL 16 Q pt m = upd Q p (Q p ++ [m]) := by
  unfold mpushE at h
  by_cases hp : putE pt m = 0
  · rw [if_pos hp] at h
    unfold mpushL
    rw [if_pos hp]
    unfold putE at hp
    by_cases h1 : pt < 0 ∨ 8 ≤ pt
    · rw [if_pos h1] at hp; omega
    · rw [if_neg h1] at hp
      by_cases h2 : 63 < m.length
      · rw [if_pos h2] at hp; omega
      · refine ⟨pt.toNat, by omega, by omega, by omega, ?_⟩
        unfold pushE at h
        unfold pushL
        by_cases h3 : 64 < m.length
        · omega
        · rw [if_neg h3] at h ⊢
          by_cases h4 : 16 ≤ (Q pt.toNat).length
          · rw [if_pos h4] at h; omega
          · rw [if_neg h4]
  · rw [if_neg hp] at h; exact absurd h hp
theorem mpushN {Q : Nat → List (List Nat)} {pt : Int} {m : List Nat} (h : mpushE 16 Q pt m ≠ 0) : mpushL 16 Q pt m = Q := by
  unfold mpushE at h
  unfold mpushL
  by_cases hp : putE pt m = 0
  · rw [if_pos hp] at h ⊢
    have : pushL 16 (Q pt.toNat) m = Q pt.toNat := by
      unfold pushE at h
      unfold pushL
      by_cases h3 : 64 < m.length
      · rw [if_pos h3]
      · rw [if_neg h3] at h ⊢
        by_cases h4 : 16 ≤ (Q pt.toNat).length
        · rw [if_pos h4]
        · rw [if_neg h4] at h; exact absurd rfl h
    rw [this]
    funext i
    unfold upd
    by_cases e : i = pt.toNat
    · rw [if_pos e, e]
    · rw [if_neg e]
  · rw [if_neg hp]
theorem Lw.push (h : Lw k q X Y I O) {p : Nat} (hp : p < 8) {m : List Nat} (hm : m.length ≤ 63) (hby : Byt m) : Lw (k + 1) q (upd X p (X p ++ [m])) Y (upd I p (I p ++ [m])) O := by
  refine ⟨fun i hi => ?_, fun i hi => ?_, fun i hi n hn => ?_, h.one, h.gone⟩
  · by_cases e : i = p
    · subst e; rw [upd_self, upd_self, h.eq i hi, List.append_assoc]
    · rw [upd_ne _ _ e, upd_ne _ _ e]; exact h.eq i hi
  · by_cases e : i = p
    · subst e; rw [upd_self, List.length_append]; have := h.len i hi; simp; omega
    · rw [upd_ne _ _ e]; exact Nat.le_succ_of_le (h.len i hi)
  · by_cases e : i = p
    · subst e; rw [upd_self] at hn
      rcases List.mem_append.1 hn with hn | hn
      · exact h.good i hi n hn
      · simp at hn; subst hn; exact ⟨hm, hby⟩
    · rw [upd_ne _ _ e] at hn; exact h.good i hi n hn
/-- Next, and Take. -/
theorem Lw.over (h : Lw k 8 X Y I O) {p : Nat} {m : List Nat} {ms : List (List Nat)} (hp : p < 8) (hX : X p = m :: ms) :
    m.length ≤ 63 ∧ Byt (p :: m) ∧ takeE 16 Y (p :: m) = 0 ∧ Lw k 0 (upd X p ms) (takeQ 16 Y (p :: m)) I O := by
  have hg := h.goodX p hp m (by rw [hX]; simp)
  have hY := h.gone p hp hp
  have hok : getOk (p :: m) = true := by show decide (p < 8 ∧ m.length ≤ 63) = true; simp; exact ⟨hp, hg.1⟩
  have hP : getP (p :: m) = p := by unfold getP; rw [hok]; rfl
  have hM : getM (p :: m) = m := by unfold getM; rw [hok]; rfl
  have hE : takeE 16 Y (p :: m) = 0 := by
    unfold takeE; rw [if_pos hok, hP, hM, hY]; unfold pushE; rw [if_neg (by have := hg.1; omega), if_neg (by simp)]
  have hQ : takeQ 16 Y (p :: m) = upd Y p [m] := by
    unfold takeQ; rw [if_pos hok, hP, hM, hY]; unfold pushL; rw [if_neg (by have := hg.1; omega), if_neg (by simp)]; rfl
  refine ⟨hg.1, fun x hx => ?_, hE, ?_⟩
  · rcases List.mem_cons.1 hx with rfl | hx
    · omega
    · exact hg.2 x hx
  · rw [hQ]
    refine ⟨fun i hi => ?_, h.len, h.good, fun i hi => ?_, fun i hi => absurd hi (by omega)⟩
    · by_cases e : i = p
      · subst e; rw [upd_self, upd_self, h.eq i hi, hY, hX]; simp
      · rw [upd_ne _ _ e, upd_ne _ _ e]; exact h.eq i hi
    · by_cases e : i = p
      · subst e; rw [upd_self]; simp
      · rw [upd_ne _ _ e]; exact h.one i hi
theorem Lw.zero (h : Lw k q X Y I O) : Lw k 0 X Y I O := ⟨h.eq, h.len, h.good, h.one, fun i hi => absurd hi (by omega)⟩
theorem Lw.pop0 (h : Lw k q X Y I O) (hY : Y q = []) : Lw k (q + 1) X Y I O := by
  refine ⟨h.eq, h.len, h.good, h.one, fun i hi h8 => ?_⟩
  by_cases e : i = q
  · rw [e]; exact hY
  · exact h.gone i (by omega) h8
theorem Lw.pop1 (h : Lw k q X Y I O) (hq : q < 8) {m : List Nat} {ys : List (List Nat)} (hY : Y q = m :: ys) : Lw k (q + 1) X (upd Y q ys) I (upd O q (O q ++ [m])) := by
  have h1 := h.one q hq
  rw [hY] at h1
  have hys : ys = [] := List.length_eq_zero_iff.1 (by simpa using h1)
  subst hys
  refine ⟨fun i hi => ?_, h.len, h.good, fun i hi => ?_, fun i hi h8 => ?_⟩
  · by_cases e : i = q
    · subst e; rw [upd_self, upd_self, h.eq i hi, hY]; simp
    · rw [upd_ne _ _ e, upd_ne _ _ e]; exact h.eq i hi
  · by_cases e : i = q
    · subst e; rw [upd_self]; exact Nat.zero_le _
    · rw [upd_ne _ _ e]; exact h.one i hi
  · by_cases e : i = q
    · subst e; rw [upd_self]
    · rw [upd_ne _ _ e]; exact h.gone i (by omega) h8
end
section
variable {w0 w w2 : World} {gx gy gi go nx : Nat} {X Y I O : Nat → List (List Nat)} {pv : Value} {pm : List Nat}
theorem Over.bel (h : Over w0 w gx gy gi go nx X Y I O pv pm) : Below w0.heap.size w0 w := by
  obtain ⟨ny, FX, FY, FI, FO, VI, VO, vi, vo, col, _, _, _, _, _, _, hb⟩ := h
  exact hb
theorem over_pop0 (h : Over w0 w gx gy gi go nx X Y I O pv pm) {q : Nat} (hq : q < 8) (hY : Y q = []) :
    Calls Try.prog 47 #[.pointer (some ⟨gy, 0, none⟩), .int .i64 (q : Nat)] w fun e w' => ∃ A c, e = .returned (.tuple #[.slice A 0 c, .bool false]) ∧ Over w0 w' gx gy gi go nx X Y I O (.slice A 0 c) [] := by
  have h1 := over_pop h (q : Int)
  have e1 : mpopF Y (q : Int) = [] := by unfold mpopF; rw [if_pos (by omega), Int.toNat_natCast, hY]; rfl
  have e2 : mpopB Y (q : Int) = false := by unfold mpopB; rw [if_pos (by omega), Int.toNat_natCast, hY]; rfl
  have e3 : mpopQ Y (q : Int) = Y := by unfold mpopQ; rw [if_pos (by omega), Int.toNat_natCast, hY]; exact upd_nil Y hY
  rw [e1, e2, e3] at h1
  exact h1
theorem over_pop1 (h : Over w0 w gx gy gi go nx X Y I O pv pm) {q : Nat} (hq : q < 8) {m : List Nat} {ys : List (List Nat)} (hY : Y q = m :: ys) :
    Calls Try.prog 47 #[.pointer (some ⟨gy, 0, none⟩), .int .i64 (q : Nat)] w fun e w' => ∃ A c, e = .returned (.tuple #[.slice A m.length c, .bool true]) ∧ Over w0 w' gx gy gi go nx X (upd Y q ys) I O (.slice A m.length c) m := by
  have h1 := over_pop h (q : Int)
  have e1 : mpopF Y (q : Int) = m := by unfold mpopF; rw [if_pos (by omega), Int.toNat_natCast, hY]; rfl
  have e2 : mpopB Y (q : Int) = true := by unfold mpopB; rw [if_pos (by omega), Int.toNat_natCast, hY]; rfl
  have e3 : mpopQ Y (q : Int) = upd Y q ys := by unfold mpopQ; rw [if_pos (by omega), Int.toNat_natCast, hY]; rfl
  rw [e1, e2, e3] at h1
  exact h1
/-- the texts of a shelf, or their first ones, against the other's. -/
theorem over_same (h : Over w0 w gx gy gi go nx X Y I O pv pm) {p : Nat} (hp8 : p < 8) {T : List (List Nat)} (hT : I p = O p ++ T) (hl : (I p).length ≤ 9223372036854775807) (hg : GoodQ I) :
    ∃ AI cI AO cO, w.cell? ⟨gi, p, none⟩ = some (.slice AI (I p).length cI) ∧ w.cell? ⟨go, p, none⟩ = some (.slice AO (O p).length cO) ∧ (I p).length ≤ cI ∧ ((AI = none ∧ (I p).length = 0 ∧ cI = 0) ∨ ∃ g, AI = some ⟨g, 0, none⟩) ∧
    ∀ d, Calls Try.prog 28 #[.slice AO (O p).length cO, .slice AI (O p).length d] w fun e w' => e = .returned (.bool true) ∧ ∃ n, w' = w.drewN n := by
  obtain ⟨ny, FX, FY, FI, FO, VI, VO, vi, vo, col, ⟨hx, hy, hi, ho⟩, ⟨cx, cy, ci, co⟩, hd, hti, hto, hp, hb⟩ := h
  obtain ⟨A, c, eV, hc⟩ := own_val (hi.row p hp8)
  obtain ⟨A2, c2, eV2, hc2⟩ := own_val (ho.row p hp8)
  have r1 : w.ownsRow (gi + 1) 33 1 (.slice A (I p).length c) (I p).length (vi p) := eV ▸ hi.row p hp8
  have r2 : w.ownsRow (go + 1) 33 1 (.slice A2 (O p).length c2) (O p).length (vo p) := eV2 ▸ ho.row p hp8
  have hle : (O p).length ≤ (I p).length := by rw [hT]; simp
  have htI : Txs w (vi p) (I p) := (hti p hp8).on hb
  have htT : Txs w ((vi p).take (O p).length) (O p) := by
    have := htI.take (O p).length
    rwa [hT, List.take_left'] at this
    rfl
  have hrI : Rd w.heap.size w A (vi p) := own_rd r1
  have hrT : Rd w.heap.size w A ((vi p).take (O p).length) := fun hn => by
    obtain ⟨b, o, hA, hlt, hc⟩ := hrI (by simp at hn; omega)
    refine ⟨b, o, hA, hlt, fun j u hu => hc j u ?_⟩
    have hjl : j < ((vi p).take (O p).length).length := (List.getElem?_eq_some_iff.1 hu).1
    rw [List.length_take] at hjl
    rw [List.getElem?_take_of_lt (by omega)] at hu
    exact hu
  refine ⟨A, c, A2, c2, eV ▸ hi.blk.cell (eight_at VI hp8), eV2 ▸ ho.blk.cell (eight_at VO hp8), hc, ?_, fun d => ?_⟩
  · rcases r1.2 with ⟨e1, e2⟩ | ⟨g, cap, cur, e, _⟩
    · injection e1 with e1 e3 e4
      exact .inl ⟨e1, by omega, by omega⟩
    · injection e with e
      exact .inr ⟨g, e⟩
  · exact sameAll_eq (own_rd r2) hrT (hto p hp8) htT (by omega) (fun m hm => by have := (hg p hp8 m (by rw [hT]; exact List.mem_append_left _ hm)).1; omega)
theorem over_len (h : Over w0 w gx gy gi go nx X Y I O pv pm) {p : Nat} (hp8 : p < 8) :
    Calls Try.prog 36 #[.pointer (some ⟨gx, 0, none⟩), .int .i64 (p : Nat)] w fun e w' => e = .returned (.int .i64 ((X p).length : Nat)) ∧ w = w' := by
  obtain ⟨ny, FX, FY, FI, FO, VI, VO, vi, vo, col, ⟨hx, hy, hi, ho⟩, _⟩ := h
  exact mux_lenN hx hp8
end
end Go.Proofs.Ytfcappddncnglaa
