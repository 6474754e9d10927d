/- Layer 19's queue, by what it does in memory: All. No conditions. -/
import Derived.Test.YtnbhgeodbpelgaaQueE
import Derived.WalkMore
import Derived.ScopeJumps
namespace Go.Proofs.Ytnbhgeodbpelgaa
open Go.RowKit
set_option linter.unusedVariables false

/-- texts of the call's own, apart from the row that lists them. -/
def OwnT (B : Nat) (w : World) (V : Value) (vs : List Value) (ms : List (List Nat)) : Prop :=
  vs.length = ms.length ∧ ∀ (i : Nat) m, ms[i]? = some m → ∃ v, vs[i]? = some v ∧ w.ownsRow B 5 1 v m.length (u8s m) ∧ (∀ k, v.ownBlock = some k → V.ownBlock ≠ some k)
/-- a new row of new texts. -/
def AllR (ms : List (List Nat)) (w : World) (e : Ending) (w' : World) : Prop :=
  ∃ A c vs, e = .returned (.slice A ms.length c) ∧ w'.ownsRow w.heap.size 34 1 (.slice A ms.length c) ms.length vs ∧ OwnT w.heap.size w' (.slice A ms.length c) vs ms ∧ Below w.heap.size w w'
theorem OwnT.nil (B : Nat) (w : World) (V : Value) : OwnT B w V [] [] := ⟨rfl, fun i m h => by simp at h⟩
theorem OwnT.txs {B : Nat} {w : World} {V : Value} {vs : List Value} {ms : List (List Nat)} (h : OwnT B w V vs ms) : Txs w vs ms := ⟨h.1, fun i m hm => by
  obtain ⟨v, hv, ho, _⟩ := h.2 i m hm
  obtain ⟨A, c, rfl, _⟩ := own_val ho
  exact ⟨_, hv, own_tx ho⟩⟩
theorem OwnT.snoc {B n : Nat} {w w1 w2 : World} {V V' v : Value} {vs : List Value} {ms : List (List Nat)} {m : List Nat} (h : OwnT B w V vs ms) (hV : w.ownsRow B 34 1 V n vs) (hb : Below w.heap.size w w1)
    (ho : w1.ownsRow w.heap.size 5 1 v m.length (u8s m)) (hB : B ≤ w.heap.size) (hg : w1.grownBy w2 V.ownBlock) (hat : V'.ownBlock = V.ownBlock ∨ V'.ownBlock = some (w1.heap.size + 1)) :
    OwnT B w2 V' (vs ++ [v]) (ms ++ [m]) := by
  have hs := hb.size
  refine ⟨by simp [h.1], fun i x hx => ?_⟩
  by_cases hi : i < ms.length
  · rw [List.getElem?_append_left hi] at hx
    obtain ⟨u, hu, hux, hd⟩ := h.2 i x hx
    refine ⟨u, by rw [List.getElem?_append_left (by rw [h.1]; exact hi)]; exact hu, own_keep (own_on hux hb) (fun k hk => ?_), fun k hk => ?_⟩
    · have := own_block_lt hux hk
      exact hg.block k (by omega) (fun e => hd k hk e.symm)
    · have := own_block_lt hux hk
      rcases hat with e | e
      · rw [e]; exact hd k hk
      · rw [e]; intro e2; injection e2; omega
  · have hl := (List.getElem?_eq_some_iff.1 hx).1
    simp at hl
    obtain rfl : i = ms.length := by omega
    obtain rfl : m = x := by simpa using hx
    have hVk : ∀ k, V.ownBlock = some k → k < w.heap.size := fun k hk => (own_block_lt hV hk).2
    refine ⟨v, by rw [← h.1]; simp, own_keep (own_more ho hB) (fun k hk => ?_), fun k hk => ?_⟩
    · have := own_block_lt ho hk
      exact hg.block k (by omega) (fun e => by have := hVk k e.symm; omega)
    · have := own_block_lt ho hk
      rcases hat with e | e
      · rw [e]; intro e2; have := hVk k e2; omega
      · rw [e]; intro e2; injection e2; omega
set_option maxRecDepth 1000000 in
set_option maxHeartbeats 1000000 in
theorem que_all {w : World} {B g room : Nat} {ms : List (List Nat)} {F : Nat → Prop} (h : Qu w B g room ms F) :
    Calls Try.prog 86 #[.pointer (some ⟨g, 0, none⟩)] w (AllR ms w) := by
  obtain ⟨i0, hi, hz0, hz1, hz2⟩ := info_parts Try.infB
  have HQ := hide h
  have hl16 : ms.length ≤ 16 := by have := h.2.2.1; omega
  clear h
  go_enter Try.func86, Try.ntmps86
  go_wp2
  refine wp_scope_jumps 0 (fun a' w' => ∃ (k : Nat) (V : Value) (vs : List Value) (u5 u6 u7 u8 u9 u10 u11 u12 u13 u14 u15 u16 u17 u18 u19 u20 u21 : Value), a' = { tmps := #[.pointer (some ⟨g, 0, none⟩), undef, .slice none 0 0, V, .int .i64 (k : Nat), u5, u6, u7, u8, u9, u10, u11, u12, u13, u14, u15, u16, u17, u18, u19, u20, u21], defers := [] } ∧
    k ≤ ms.length ∧ w'.ownsRow w.heap.size 34 1 V k vs ∧ Hid (OwnT w.heap.size w' V vs (ms.take k)) ∧ Hid (Below w.heap.size w w')) (fun a' _ => ms.length - (intOf (a'.tmps.getD 4 undef)).toNat) rfl ?_ ?_
  · have hown : w.ownsRow w.heap.size 34 1 (.slice none 0 0) 0 [] := World.ownsRow_nil _ _ _ _
    have HOT : Hid (OwnT w.heap.size w (.slice none 0 0) [] (ms.take 0)) := OwnT.nil _ _ _
    have HB : Hid (Below w.heap.size w w) := Below.refl _ _
    go_wp2
    go_step3
    by_cases hlt : 0 < ms.length
    · obtain ⟨m, hm⟩ : ∃ m, ms[0]? = some m := ⟨_, List.getElem?_eq_getElem hlt⟩
      have HAT := hide (que_at_in (HQ.out.on HB.out) 0 m hm)
      have HM := hide hm
      have g1 : 0 + 1 ≤ 9223372036854775807 := by omega
      have g2 : (0 + 1) * 24 ≤ 140737488355328 := by omega
      have HLT := hide hlt
      clear hm hlt
      go_wp2_with fail
      refine HAT.out.mono ?_; rintro e w1 ⟨A, c, rfl, ho1, hb1⟩
      have hob := own_on hown hb1
      have hB1 := Nat.le_trans HB.out.size hb1.size
      have HO1 := hide ho1
      have HB1 := hide hb1
      have HOW := hide hown
      clear ho1 hb1 hown
      go_wp2_with (at_builtin; refine wpList_app1 _ rfl (.tmp 16) (.tmp 18) 75 rfl w.heap.size 34 i0 (.slice none 0 0) 24 Try.underlying75 hi hz0 hz1 hz2 rfl _ _ _ rfl hob _ rfl (by rfl) g1 g2 hB1 ?_; intro v' w2 hown1 hg1 hat1)
      go_step3
      have HT : Hid (OwnT w.heap.size w2 v' ([] ++ [.slice A m.length c]) (ms.take (0 + 1))) := by
        have := OwnT.snoc HOT.out HOW.out HB1.out HO1.out HB.out.size hg1 hat1
        show OwnT _ _ _ _ _; rw [List.take_add_one, HM.out]; exact this
      have HBE := hide (below_app (below2 HB.out HB1.out (Nat.le_refl _)) hob hg1 hB1)
      exact ⟨rfl, 0 + 1, v', _, _, _, _, _, _, _, _, _, _, _, _, _, _, _, _, _, _, rfl, HLT.out, hown1, HT, HBE⟩
    · have HAT := hide (que_at_out (HQ.out.on HB.out) (0 : Nat) (.inr (by omega)))
      have hz : ms = [] := by cases ms with | nil => rfl | cons x l => simp at hlt
      have HZ := hide hz
      clear hz
      clear hlt
      go_wp2_with fail
      refine HAT.out.mono ?_; rintro e w' ⟨rfl, rfl⟩
      go_wp2
      simp only [Exit.jump]
      go_ret
      have hz := HZ.out
      subst hz
      exact ⟨none, 0, [], rfl, hown, HOT.out, HB.out⟩
  · rintro a' wr ⟨k, V, vs, u5, u6, u7, u8, u9, u10, u11, u12, u13, u14, u15, u16, u17, u18, u19, u20, u21, rfl, hk, hown, HOT, HB⟩
    by_cases hlt : k < ms.length
    · obtain ⟨m, hm⟩ : ∃ m, ms[k]? = some m := ⟨_, List.getElem?_eq_getElem hlt⟩
      have HAT := hide (que_at_in (HQ.out.on HB.out) k m hm)
      have HM := hide hm
      have g1 : k + 1 ≤ 9223372036854775807 := by omega
      have g2 : (k + 1) * 24 ≤ 140737488355328 := by omega
      have HLT := hide hlt
      clear hm hlt
      go_wp2_with fail
      refine HAT.out.mono ?_; rintro e w1 ⟨A, c, rfl, ho1, hb1⟩
      have hob := own_on hown hb1
      have hB1 := Nat.le_trans HB.out.size hb1.size
      have HO1 := hide ho1
      have HB1 := hide hb1
      have HOW := hide hown
      clear ho1 hb1 hown
      go_wp2_with (at_builtin; refine wpList_app1 _ rfl (.tmp 16) (.tmp 18) 75 rfl w.heap.size 34 i0 (.slice none 0 0) 24 Try.underlying75 hi hz0 hz1 hz2 rfl _ _ _ rfl hob _ rfl (by rfl) g1 g2 hB1 ?_; intro v' w2 hown1 hg1 hat1)
      go_step3
      have HT : Hid (OwnT w.heap.size w2 v' (vs ++ [.slice A m.length c]) (ms.take (k + 1))) := by
        have := OwnT.snoc HOT.out HOW.out HB1.out HO1.out HB.out.size hg1 hat1
        show OwnT _ _ _ _ _; rw [List.take_add_one, HM.out]; exact this
      have HBE := hide (below_app (below2 HB.out HB1.out (Nat.le_refl _)) hob hg1 hB1)
      have hk1 : ((k : Int) + 1) = ((k + 1 : Nat) : Int) := by omega
      refine ⟨rfl, ⟨k + 1, v', _, _, _, _, _, _, _, _, _, _, _, _, _, _, _, _, _, _, by rw [← hk1], HLT.out, hown1, HT, HBE⟩, ?_⟩
      have := HLT.out
      simp [intOf]; omega
    · have HAT := hide (que_at_out (HQ.out.on HB.out) (k : Nat) (.inr (by omega)))
      have hkz : k = ms.length := by omega
      have HZ := hide hkz
      clear hkz
      clear hlt
      go_wp2_with fail
      refine HAT.out.mono ?_; rintro e w' ⟨rfl, rfl⟩
      go_wp2
      simp only [Exit.jump]
      go_ret
      have hz := HZ.out
      obtain ⟨A, c, rfl, _⟩ := own_val hown
      have ht := HOT.out
      rw [hz, List.take_length] at ht
      rw [hz] at hown
      exact ⟨A, c, vs, by rw [hz]; rfl, hown, ht, HB.out⟩
end Go.Proofs.Ytnbhgeodbpelgaa
