/- First and Apart of layer 26 and of its reference, by what they compute. No conditions. -/
import Derived.Test.YtfcappddncnglaaB2
import Derived.Test.YtfcappddncnglaaP26
import Derived.Maps.OwnSet
import Derived.Maps.OwnOps
namespace Go.Proofs.Ytfcappddncnglaa
open Go.RowKit Go.Maps
set_option linter.unusedVariables false

theorem keyU : Keyed Try.prog 94 := int_keyed Try.underlying94
theorem zeroI (w : World) : (zeroValue 3).run Try.prog w = .ok (.int .i64 0) w := by kernel_rfl
/-- the map behind k rounds: each number at its place. -/
def No.seen (l : List Nat) : Nat → DataW Unit
  | 0 => .map []
  | k + 1 => (No.seen l k).put (.int .u64 ((l.getD k 0 : Nat) : Int)) (.lit (.int .i64 (k : Int)))
theorem No.seen_map (l : List Nat) (k : Nat) : IsMap (No.seen l k) := by
  induction k with
  | zero => exact isMap_empty
  | succ k ih => exact ih.put _ _
theorem No.seen_has (l : List Nat) (x k : Nat) (hk : k ≤ l.length) : Maps.has (No.seen l k) (.int .u64 (x : Int)) = decide (x ∈ l.take k) := by
  induction k with
  | zero => simp [No.seen, Maps.has]
  | succ k ih =>
    have hx : l[k]? = some (l.getD k 0) := getD_of (by omega)
    rw [List.take_add_one, hx]
    by_cases he : x = l.getD k 0
    · simp only [No.seen]
      rw [he, has_put_same (No.seen_map l k) (by exact True.intro)]
      symm; exact decide_eq_true (List.mem_append.2 (.inr (by rw [Option.toList_some]; exact List.mem_singleton.2 rfl)))
    · simp only [No.seen]
      rw [has_put_other (by intro e; injection e with _ e; omega), ih (by omega)]
      apply decide_eq_decide.2
      rw [Option.toList_some, List.mem_append, List.mem_singleton]
      exact ⟨.inl, fun h => h.elim id (fun h => absurd h he)⟩
theorem No.seen_at (l : List Nat) (x i k : Nat) (z : DataW Unit) (hi : i < k) (hk : k ≤ l.length) (hx : l[i]? = some x) (hn : (l.take k).Nodup) : (No.seen l k).atKey (.int .u64 (x : Int)) z = .lit (.int .i64 (i : Int)) := by
  induction k with
  | zero => omega
  | succ k ih =>
    have hxk : l[k]? = some (l.getD k 0) := getD_of (by omega)
    simp only [No.seen]
    by_cases he : i = k
    · subst he
      have : l.getD i 0 = x := by rw [hxk] at hx; injection hx
      rw [this, atKey_put_same (No.seen_map l i) (by exact True.intro)]
    · have hne : x ≠ l.getD k 0 := by
        rintro rfl
        have := No.take_eq hn (show i < k + 1 by omega) (show k < k + 1 by omega) hk (hx.trans hxk.symm)
        exact he this
      rw [atKey_put_other (by intro e; injection e with _ e; omega)]
      refine ih (by omega) (by omega) ?_
      have h2 : l.take k = (l.take (k + 1)).take k := by rw [List.take_take]; congr 1; omega
      rw [h2]
      exact hn.sublist (List.take_sublist _ _)

/-- what First tells. -/
def FirstR (l : List Nat) (w : World) (e : Ending) (w' : World) : Prop :=
  ((∃ k i, No.IsFirst l k i ∧ e = .returned (.tuple #[.int .i64 (k : Int), .int .i64 (i : Int), .bool true])) ∨ (l.Nodup ∧ e = .returned (.tuple #[.int .i64 0, .int .i64 0, .bool false]))) ∧ Below w.heap.size w w'

set_option maxRecDepth 100000 in
set_option maxHeartbeats 800000 in
theorem first_any (A : Option Addr) (c : Nat) (l : List Nat) (h63 : l.length ≤ 17592186044416) (hf : ∀ x ∈ l, x < 18446744073709551616) (w : World) (hA : Rd w.heap.size w A (u64s l)) :
    Calls Try.prog 82 #[.slice A l.length c] w (FirstR l w) := by
  have HA := hide hA
  have HF := hide hf
  clear hA hf
  have hmm := @run_makeMap Try.prog
  go_enter Try.func82, Try.ntmps82
  go_wp2
  go_loopw [13] (fun i wr => ∃ k : Nat, k ≤ l.length ∧ i = .int .i64 k ∧ Hid ((l.take k).Nodup) ∧ wr.ownsMap Try.prog 94 (plainElem Try.prog 3) w.heap.size k (No.seen l k) ∧ Below w.heap.size w wr) (fun i _ => l.length - (intOf i).toNat)
  case atStart => exact ⟨0, Nat.zero_le _, rfl, hide (by simp), World.ownsMap_made _ _ _ _, (Below.refl _ _).alloc (Nat.le_refl _) _⟩
  case round =>
    obtain ⟨k, hk, rfl, hnd, hown, hb⟩ := hrel
    clear hmm
    by_cases hlt : k < l.length
    · obtain ⟨x, hx⟩ : ∃ x, l[k]? = some x := ⟨_, List.getElem?_eq_getElem hlt⟩
      obtain ⟨b1, o1, rfl, hbb, hc1⟩ := (HA.out.below hb (Nat.le_refl _)).at_ (u64s_get hx)
      have hxf : x < 18446744073709551616 := HF.out x (List.mem_of_getElem? hx)
      have hkey : Hid (keyOf Try.prog 94 (.int .u64 (x : Int)) = some (.int .u64 (x : Int))) := keyOf_int_mk Try.underlying94 (WalkArith.wf_u64 (by omega))
      have hhas := No.seen_has l x k hk
      have HX := hide hx
      have hB := hb.size
      have hkm : k < maxLen := by unfold maxLen; omega
      by_cases hm : x ∈ l.take k
      · obtain ⟨i, hik, hxi⟩ := No.mem_take hm
        have hat0 := fun z => No.seen_at l x i k z hik hk hxi hnd.out
        have HAT := hide hat0
        have hh : Maps.has (No.seen l k) (.int .u64 (x : Int)) = true := by rw [hhas]; simpa using hm
        have HFIN : Hid (No.IsFirst l i k) := ⟨hik, hlt, hxi.trans hx.symm, hnd.out⟩
        clear hm hxi hat0 hx hxf hhas
        go_wp2_with (at_lookup; refine wpList_lookup_own_ok_int _ rfl _ _ 144 rfl 94 3 .i64 keyU Try.underlying144 Try.underlying3 (zeroI _) w.heap.size k _ rfl hown _ _ rfl hkey.out ?_; intro c hat hwc)
        go_ret3
        have hci : c = (i : Int) := by
          rw [HAT.out] at hat
          injection hat with hat
          injection hat with _ hat
          exact hat.symm
        exact ⟨.inl ⟨i, k, HFIN.out, by rw [hci]; rfl⟩, hb⟩
      · have hh : Maps.has (No.seen l k) (.int .u64 (x : Int)) = false := by rw [hhas]; simpa using hm
        have HND := hide (No.nodup_next hnd.out hx hm)
        have hxg : l.getD k 0 = x := by rw [List.getD_eq_getElem?_getD, hx]; rfl
        have HST : Hid ((No.seen l k).put (.int .u64 (x : Int)) (.lit (.int .i64 (k : Int))) = No.seen l (k + 1)) := by show _ = _; simp only [No.seen, hxg]
        have hwf : (Lit.int .i64 (k : Int)).wf = true := WalkArith.wf_i64 (by omega)
        have HWF := hide hwf
        clear hm hx hxf hxg hhas hwf
        go_wp2_with (first
          | (at_lookup; refine wpList_lookup_own_ok_int _ rfl _ _ 144 rfl 94 3 .i64 keyU Try.underlying144 Try.underlying3 (zeroI _) w.heap.size k _ rfl hown _ _ rfl hkey.out ?_; intro c hat hwc)
          | (at_mapUpdate; refine wpList_mapUpdate_own _ rfl _ _ _ 144 rfl 94 3 keyU Try.underlying144 _ w.heap.size k _ rfl hown hkm _ _ _ rfl rfl hkey.out _ [] (plainElem_int Try.underlying3 HWF.out) ?_; intro w1 hown1 hgrow1))
        go_roundw
        case rel => exact ⟨k + 1, by omega, by go_num, HND, HST.out ▸ hown1, hb.grown hgrow1 hB (fun j hj => by cases hj; exact Nat.le_refl _)⟩
        case measure => simp [intOf]; omega
    · obtain rfl : k = l.length := by omega
      go_wp2
      go_ret3
      exact ⟨.inr ⟨by have := hnd.out; rwa [List.take_length] at this, rfl⟩, hb⟩
end Go.Proofs.Ytfcappddncnglaa
