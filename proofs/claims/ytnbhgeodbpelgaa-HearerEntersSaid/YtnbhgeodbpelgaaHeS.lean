/- Words for HearerEnters: a map from bytes to counts; what the hearer is at while others are told. No conditions. -/
import Derived.Test.YtnbhgeodbpelgaaHeE
import Derived.Test.YtnbhgeodbpelgaaIn
namespace Go.Proofs.Ytnbhgeodbpelgaa
open Go.RowKit Go.Maps
set_option linter.unusedVariables false

/-! ### the map -/
theorem keyB : Keyed Try.prog 5 := int_keyed Try.underlying5
theorem zeroC (w : World) : (zeroValue 22).run Try.prog w = .ok (.int .u64 0) w := by kernel_rfl
def CntOk (D : DataW Unit) (f : Nat → Nat) : Prop := IsMap D ∧ ∀ x : Nat, D.atKey (.int .u8 (x : Int)) (.lit (.int .u64 0)) = .lit (.int .u64 (f x : Int))
def updC (f : Nat → Nat) (c v : Nat) (x : Nat) : Nat := if x = c then v else f x
theorem cntO_new : CntOk (.map []) (fun _ => 0) := ⟨isMap_empty, fun x => by rw [atKey_of_not_has (by simp [Maps.has])]; rfl⟩
theorem lit8_ne {x c : Nat} (h : x ≠ c) : (Lit.int .u8 (x : Int)) ≠ .int .u8 (c : Int) := fun e => by injection e with _ e; omega
theorem cntO_put {D : DataW Unit} {f : Nat → Nat} (h : CntOk D f) (c t : Nat) : CntOk (D.put (.int .u8 (c : Int)) (.lit (.int .u64 (t : Int)))) (updC f c t) := by
  refine ⟨h.1.put _ _, fun x => ?_⟩
  unfold updC
  by_cases e : x = c
  · subst e
    rw [if_pos rfl]
    exact atKey_put_same h.1 (by exact True.intro) _ _
  · rw [if_neg e, atKey_put_other (lit8_ne e)]
    exact h.2 x
def mapC (w : World) (b n : Nat) (f : Nat → Nat) : Prop := ∃ D : DataW Unit, w.ownsMap Try.prog 5 (plainElem Try.prog 22) b n D ∧ CntOk D f
section
variable {w w' : World} {b n : Nat} {f : Nat → Nat}
theorem mapC_same (h : mapC w b n f) (e : w'.heap[b]? = w.heap[b]?) : mapC w' b n f := by obtain ⟨D, h1, h2⟩ := h; exact ⟨D, own_map_same h1 e, h2⟩
theorem mapC_lt (h : mapC w b n f) : b < w.heap.size := by obtain ⟨D, h1, _⟩ := h; exact h1.lt
theorem mapC_more (h : mapC w b n f) {m : Nat} (hm : n ≤ m) : mapC w b m f := by obtain ⟨D, h1, h2⟩ := h; exact ⟨D, h1.mono hm, h2⟩
theorem key8 {c : Nat} (hc : c < 256) : keyOf Try.prog 5 (.int .u8 (c : Int)) = some (.int .u8 (c : Int)) := keyOf_int_mk Try.underlying5 (WalkArith.wf_u8 (by omega))
theorem mapC_set (h : mapC w b n f) (hn : n ≤ 1000000) {c t : Nat} (hc : c < 256) (ht : t < 18446744073709551616) :
    ∃ w', (Instr.mapUpdate 58 (.map (some b)) (.int .u8 (c : Int)) (.int .u64 (t : Int))).run Try.prog w = .ok () w' ∧ mapC w' b (n + 1) (updC f c t) ∧ w.grownBy w' (some b) := by
  obtain ⟨D, h1, h2⟩ := h
  obtain ⟨w', r1, r2, r3⟩ := h1.update keyB Try.underlying58 (by unfold maxLen; omega) (key8 hc) (plainElem_int Try.underlying22 (WalkArith.wf_u64 (show 0 ≤ (t : Int) ∧ (t : Int) ≤ 18446744073709551615 by omega)))
  exact ⟨w', r1, ⟨_, r2, cntO_put h2 c t⟩, r3⟩
set_option maxRecDepth 100000 in
theorem mapC_get (h : mapC w b n f) {c : Nat} (hc : c < 256) :
    (Instr.lookup 58 (.map (some b)) (.int .u8 (c : Int)) false).run Try.prog w = .ok (.int .u64 (f c : Int)) w := by
  obtain ⟨D, h1, h2⟩ := h
  obtain ⟨u, ps, r1, r2⟩ := h1.lookup keyB Try.underlying58 (zeroC w) (plainElem_int Try.underlying22 (by decide)) (key8 hc)
  obtain ⟨c', rfl, e, _⟩ := plainElem_int_inv Try.underlying22 r2
  have e2 := congrArg Prod.fst e
  simp only at e2
  rw [h2.2 c] at e2
  injection e2 with e2
  injection e2 with _ e2
  rw [← e2] at r1
  exact r1
theorem mapC_new (w : World) : mapC (w.alloc (.map #[] 0)) w.heap.size 0 (fun _ => 0) := ⟨_, World.ownsMap_made _ _ _ _, cntO_new⟩
end
/-! ### counts -/
theorem addT_none {s : List Trow} {lb : Int} {m : List Nat} (h : idxT s lb m = none) : addT s lb m = s ++ [(lb, m, 1)] := by unfold addT; rw [h]
theorem addT_some {s : List Trow} {lb : Int} {m : List Nat} {i : Nat} (h : idxT s lb m = some i) : addT s lb m = upT s i := by unfold addT; rw [h]
theorem cnt_add_same (s : List Trow) (lb : Int) (m : List Nat) : cntT (addT s lb m) lb m = cntT s lb m + 1 := by
  cases h : idxT s lb m with
  | none => rw [cnt_add_none h, cnt_none h]
  | some i =>
    obtain ⟨c, hc⟩ := idx_some h
    rw [cnt_add_some h hc, cnt_some h hc]
theorem cnt_add_other (s : List Trow) (lb : Int) {m m' : List Nat} (h : m' ≠ m) : cntT (addT s lb m) lb m' = cntT s lb m' := by
  cases hx : idxT s lb m with
  | none =>
    rw [addT_none hx]
    have e : idxT (s ++ [(lb, m, 1)]) lb m' = idxT s lb m' := by rw [idx_push s lb m 1 hx]; unfold updK; rw [if_neg (fun hc => h hc.2)]
    unfold cntT
    rw [e]
    cases h2 : idxT s lb m' with
    | none => rfl
    | some j => simp only; rw [List.getElem?_append_left (idx_lt h2)]
  | some i =>
    rw [addT_some hx]
    unfold cntT
    rw [idx_up]
    cases h2 : idxT s lb m' with
    | none => rfl
    | some j =>
      simp only
      rw [upT_get]
      have hne : j ≠ i := fun e => by
        subst e
        obtain ⟨c, hc⟩ := idx_some hx
        obtain ⟨c', hc'⟩ := idx_some h2
        rw [hc] at hc'
        injection hc' with hc'
        injection hc' with _ hc'
        injection hc' with hc' _
        exact h hc'.symm
      cases s[j]? with
      | none => rfl
      | some r => simp [hne]
/-- how far the rows go behind one more. -/
theorem rows_add {s : List Trow} {lb : Int} {m : List Nat} {N : Nat} (h : ∀ r ∈ s, r.2.2 ≤ N) : ∀ r ∈ addT s lb m, r.2.2 ≤ N ∨ r = (lb, m, cntT s lb m + 1) := by
  cases hx : idxT s lb m with
  | none =>
    rw [addT_none hx, cnt_none hx]
    intro r hr
    rcases List.mem_append.1 hr with hr | hr
    · exact .inl (h r hr)
    · simp at hr; exact .inr hr
  | some i =>
    obtain ⟨c, hc⟩ := idx_some hx
    rw [addT_some hx, cnt_some hx hc]
    intro r hr
    obtain ⟨j, hj⟩ := List.getElem?_of_mem hr
    rw [upT_get] at hj
    obtain ⟨r0, h0, rfl⟩ := Option.map_eq_some_iff.1 hj
    by_cases e : j = i
    · subst e
      have e2 := Option.some.inj (h0.symm.trans hc)
      subst e2
      exact .inr (by simp)
    · simp only [if_neg e]
      exact .inl (h r0 (List.mem_of_getElem? h0))
theorem row_add (s : List Trow) (lb : Int) (m : List Nat) : (lb, m, cntT s lb m + 1) ∈ addT s lb m := by
  cases hx : idxT s lb m with
  | none => rw [addT_none hx, cnt_none hx]; simp
  | some i =>
    obtain ⟨c, hc⟩ := idx_some hx
    rw [addT_some hx, cnt_some hx hc]
    refine List.mem_of_getElem? (i := i) ?_
    rw [upT_get, hc]
    simp
theorem rows_le {s : List Trow} {lb : Int} {m : List Nat} {N : Nat} (h : ∀ r ∈ s, r.2.2 ≤ N) (hc : cntT s lb m < N) : ∀ r ∈ addT s lb m, r.2.2 ≤ N := fun r hr => by
  rcases rows_add h r hr with h1 | h1
  · exact h1
  · rw [h1]; show cntT s lb m + 1 ≤ N; omega
theorem best_le {s : List Trow} {N : Nat} (h : ∀ r ∈ s, r.2.2 ≤ N) (lb : Int) : (bestT s lb).2 ≤ N := by
  have key : ∀ (s : List Trow) (b : List Nat × Nat), (∀ r ∈ s, r.2.2 ≤ N) → b.2 ≤ N → (s.foldl (bestF lb) b).2 ≤ N := by
    intro s
    induction s with
    | nil => intro b _ hb; exact hb
    | cons r s ih =>
      intro b hs hb
      refine ih _ (fun x hx => hs x (List.mem_cons_of_mem _ hx)) ?_
      unfold bestF
      split
      · exact hs r (List.mem_cons_self ..)
      · exact hb
  exact key s _ h (Nat.zero_le _)
theorem best_is {s : List Trow} {lb : Int} {m : List Nat} {N : Nat} (h : ∀ r ∈ s, r.2.2 ≤ N ∨ r = (lb, m, N + 1)) (hm : (lb, m, N + 1) ∈ s) : bestT s lb = (m, N + 1) := by
  have key : ∀ (s : List Trow) (b : List Nat × Nat), (∀ r ∈ s, r.2.2 ≤ N ∨ r = (lb, m, N + 1)) → (b.2 ≤ N ∨ b = (m, N + 1)) → ((lb, m, N + 1) ∈ s ∨ b = (m, N + 1)) → s.foldl (bestF lb) b = (m, N + 1) := by
    intro s
    induction s with
    | nil => intro b _ _ hb; simpa using hb
    | cons r s ih =>
      intro b hs hb1 hb2
      refine ih _ (fun x hx => hs x (List.mem_cons_of_mem _ hx)) ?_ ?_
      · unfold bestF
        split
        · rcases hs r (List.mem_cons_self ..) with h1 | h1
          · exact .inl h1
          · rw [h1]; exact .inr rfl
        · exact hb1
      · by_cases hb : b = (m, N + 1)
        · right
          unfold bestF
          rw [if_neg]
          · exact hb
          · rintro ⟨_, h2⟩
            rw [hb] at h2
            rcases hs r (List.mem_cons_self ..) with h1 | h1
            · dsimp only at h2; omega
            · rw [h1] at h2; dsimp only at h2; omega
        · have hb3 : b.2 ≤ N := hb1.resolve_right hb
          rcases List.mem_cons.1 (hb2.resolve_right hb) with h1 | h1
          · right
            rw [← h1]
            unfold bestF
            rw [if_pos ⟨rfl, by show b.2 < N + 1; omega⟩]
          · exact .inl h1
  exact key s _ h (.inl (Nat.zero_le _)) (.inl hm)
/-! ### the hearer while nothing enters -/
def hE (o N : Nat) (t : List Trow) : Hst := ⟨[], ⟨o, N, false⟩, t, 0, 0⟩
def hF (m : List Nat) (o : Nat) : Hst := ⟨[m], ⟨o, o, false⟩, [], 1, 0⟩
def hG (o : Nat) : Hst := ⟨[], ⟨o, o, false⟩, [], 1, 1⟩
theorem hE_new {N : Nat} (h : N ≤ 20) : newH N = hE N N [] := by
  unfold newH Led.new hE
  rw [topB_lt (by omega)]
theorem hE_tick {o N : Nat} (h : o ≤ 1000) (t : List Trow) : htickS (hE o N t) = hE (o + 1) N t := by
  unfold htickS hE Led.ask
  rw [if_neg (by simp), topB_lt (show o + 1 < 18446744073709551615 by omega)]
theorem hE_told {o N : Nat} (h : o ≤ 1000) (t : List Trow) : htickT (hE o N t) = [(0, 0, [])] := by
  unfold htickT hE Led.askB
  simp
  try omega
theorem hE_other {o N : Nat} (h : 0 < o) (t : List Trow) (m : List Nat) : takeHS 2 (hE o N t) 3 1 m = hE (o - 1) N t := by
  have h0 : ¬ o = 0 := by omega
  simp [takeHS, hE, heardH, Led.hearB, Led.hear, h0]
theorem hE_data {o N : Nat} (h : 0 < o) {t : List Trow} {m : List Nat} (ht : ∀ r ∈ addT t 0 m, r.2.2 ≤ N) : takeHS 2 (hE o N t) 3 0 m = hE (o - 1) N (addT t 0 m) := by
  have h0 : ¬ o = 0 := by omega
  have hb := best_le ht 0
  have hn : ¬ N < (bestT (addT t 0 m) 0).2 := by omega
  have e1 : takeHS 2 (hE o N t) 3 0 m = enterS 2 (hE (o - 1) N (addT t 0 m)) := by simp [takeHS, hE, heardH, Led.hearB, Led.hear, h0]
  rw [e1]
  unfold enterS
  split
  · rfl
  · split
    · rfl
    · rw [if_pos]
      simp [Led.enough, hE, bestH]
      omega
theorem hE_last {o N : Nat} (h : 0 < o) {t : List Trow} {m : List Nat} (h64 : m.length ≤ 64) (hb : bestT (addT t 0 m) 0 = (m, N + 1)) : takeHS 2 (hE o N t) 3 0 m = hF m (o - 1) := by
  have h0 : ¬ o = 0 := by omega
  have h2 : ¬ 64 < m.length := by omega
  have e1 : takeHS 2 (hE o N t) 3 0 m = enterS 2 (hE (o - 1) N (addT t 0 m)) := by simp [takeHS, hE, heardH, Led.hearB, Led.hear, h0]
  rw [e1]
  simp [enterS, bestH, hE, hF, hb, Led.enough, pushE, pushL, Led.set, h2]
  try omega
theorem hF_recv (m : List Nat) (o : Nat) : recvHS 2 (hF m o) = hG o := by
  simp [recvHS, hF, hG, enterS, bestH, bestT]
/-- what is told so far. -/
structure EnI (N : Nat) (m : List Nat) (t : List Trow) (f : Nat → Nat) (j : Nat) : Prop where
  le : ∀ r ∈ t, r.2.2 ≤ N
  cnt : ∀ c, [c] ≠ m → cntT t 0 [c] = f c
  me : cntT t 0 m = j
theorem EnI.new (N : Nat) (m : List Nat) : EnI N m [] (fun _ => 0) 0 := ⟨fun r h => by simp at h, fun c _ => rfl, rfl⟩
theorem EnI.tell {N : Nat} {m : List Nat} {t : List Trow} {f : Nat → Nat} {j : Nat} (h : EnI N m t f j) {c : Nat} (hc : [c] ≠ m) (hf : f c < N) : EnI N m (addT t 0 [c]) (updC f c (f c + 1)) j := by
  have h1 := h.cnt c hc
  refine ⟨rows_le h.le (by omega), fun x hx => ?_, ?_⟩
  · unfold updC
    by_cases e : x = c
    · subst e; rw [if_pos rfl, cnt_add_same, h1]
    · rw [if_neg e, cnt_add_other t 0 (by simpa using e), h.cnt x hx]
  · rw [cnt_add_other t 0 (fun e => hc e.symm), h.me]
theorem EnI.more {N : Nat} {m : List Nat} {t : List Trow} {f : Nat → Nat} {j : Nat} (h : EnI N m t f j) (hj : j < N) : (∀ r ∈ addT t 0 m, r.2.2 ≤ N) ∧ EnI N m (addT t 0 m) f (j + 1) := by
  have h1 := rows_le (lb := 0) (m := m) h.le (by rw [h.me]; exact hj)
  exact ⟨h1, h1, fun c hc => by rw [cnt_add_other t 0 hc]; exact h.cnt c hc, by rw [cnt_add_same, h.me]⟩
theorem EnI.last {N : Nat} {m : List Nat} {t : List Trow} {f : Nat → Nat} (h : EnI N m t f N) : bestT (addT t 0 m) 0 = (m, N + 1) := by
  have h1 := rows_add (lb := 0) (m := m) h.le
  have h2 := row_add t 0 m
  rw [h.me] at h1 h2
  exact best_is h1 h2
end Go.Proofs.Ytnbhgeodbpelgaa
