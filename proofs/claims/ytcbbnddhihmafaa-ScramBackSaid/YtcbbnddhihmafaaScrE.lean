/- Do of layer 9 and of its reference: each by what it computes. No conditions. -/
import Derived.Test.YtcbbnddhihmafaaScrD
namespace Go.Proofs.Ytcbbnddhihmafaa
open Go.RowKit
set_option linter.unusedVariables false

theorem Sc.stream_byt (s n : Nat) : Byt (Sc.stream s n) := by
  intro x hx
  simp only [Sc.stream, List.mem_map] at hx
  obtain ⟨i, _, rfl⟩ := hx
  exact Sc.oct_lt _
theorem Sc.doN_length (s : Nat) (l : List Nat) : (Sc.doN s l).length = l.length := by simp [Sc.doN, Sc.stream_length]
theorem Sc.stream_get (s : Nat) {n k : Nat} (h : k < n) : (Sc.stream s n)[k]? = some (Sc.oct (Sc.go (8 * k) s)) := by simp [Sc.stream, h]
theorem Sc.doN_get (s : Nat) {l : List Nat} {k x : Nat} (h : l[k]? = some x) : (Sc.doN s l)[k]? = some (Sc.oct (Sc.go (8 * k) s) ^^^ x) := by
  have hk : k < l.length := (List.getElem?_eq_some_iff.1 h).1
  simp [Sc.doN, List.getElem?_zipWith, Sc.stream_get s hk, h]
theorem Sc.doN_byt (s : Nat) {l : List Nat} (h : Byt l) : Byt (Sc.doN s l) := by
  intro x hx
  obtain ⟨k, hk⟩ := List.getElem?_of_mem hx
  have hl : k < l.length := by have := (List.getElem?_eq_some_iff.1 hk).1; rwa [Sc.doN_length] at this
  obtain ⟨y, hy⟩ : ∃ y, l[k]? = some y := ⟨_, List.getElem?_eq_getElem hl⟩
  rw [Sc.doN_get s hy] at hk
  injection hk with hk
  subst hk
  exact Nat.xor_lt_two_pow (n := 8) (Sc.oct_lt _) (h.at_ hy)
/-- what stands in the row behind k of the rounds of Do. -/
def Sc.half (s : Nat) (l : List Nat) (k : Nat) : List Nat := (Sc.doN s l).take k ++ (Sc.stream s l.length).drop k
theorem Sc.half_zero (s : Nat) (l : List Nat) : Sc.half s l 0 = Sc.stream s l.length := by simp [Sc.half]
theorem Sc.half_all (s : Nat) (l : List Nat) : Sc.half s l l.length = Sc.doN s l := by
  unfold Sc.half
  rw [List.take_of_length_le (by rw [Sc.doN_length]; exact Nat.le_refl _), List.drop_of_length_le (by rw [Sc.stream_length]; exact Nat.le_refl _), List.append_nil]
theorem Sc.half_at (s : Nat) (l : List Nat) {k : Nat} (h : k < l.length) : (Sc.half s l k)[k]? = some (Sc.oct (Sc.go (8 * k) s)) := by
  unfold Sc.half
  rw [List.getElem?_append_right (by rw [List.length_take]; exact Nat.min_le_left _ _), List.length_take, Nat.min_eq_left (by rw [Sc.doN_length]; omega), Nat.sub_self, List.getElem?_drop, Nat.add_zero, Sc.stream_get s h]
theorem Sc.half_next (s : Nat) {l : List Nat} {k x : Nat} (h : l[k]? = some x) : (Sc.half s l k).set k (Sc.oct (Sc.go (8 * k) s) ^^^ x) = Sc.half s l (k + 1) := by
  have hk : k < l.length := (List.getElem?_eq_some_iff.1 h).1
  unfold Sc.half
  have e1 : (Sc.stream s l.length).drop k = Sc.oct (Sc.go (8 * k) s) :: (Sc.stream s l.length).drop (k + 1) := by
    have hg := Sc.stream_get s hk
    obtain ⟨hl, he⟩ := List.getElem?_eq_some_iff.1 hg
    rw [List.drop_eq_getElem_cons hl, he]
  have e2 : (Sc.doN s l).take (k + 1) = (Sc.doN s l).take k ++ [Sc.oct (Sc.go (8 * k) s) ^^^ x] := by rw [List.take_add_one, Sc.doN_get s h]; rfl
  have hlen : ((Sc.doN s l).take k).length = k := by rw [List.length_take, Sc.doN_length]; omega
  rw [e1, e2]
  have := set_next ((Sc.doN s l).take k) ((Sc.stream s l.length).drop (k + 1)) (Sc.oct (Sc.go (8 * k) s)) (Sc.oct (Sc.go (8 * k) s) ^^^ x)
  rwa [hlen] at this

theorem do_long (s : Int) (A : Option Addr) (n c : Nat) (hn : 4096 < n) (h63 : n ≤ 9223372036854775807) (w : World) : Calls Try.prog 24 #[.int .i64 s, .slice A n c] w fun e w' => e = .returned (.slice none 0 0) ∧ w = w' := by
  go_enter Try.func24, Try.ntmps24
  go_wp2_with (go_at_call 22; refine (stream_bad _ _ (Or.inr (by omega)) _).mono ?_; rintro e w' ⟨rfl, rfl⟩)
  refine wp_loop_rounds 1 ?_
  rw [rounds_succ]
  go_wp2
  go_ret
  exact ⟨rfl, rfl⟩

set_option maxHeartbeats 400000 in
/-- scram.Do -/
theorem do_any (s : Int) (A : Option Addr) (c : Nat) (l : List Nat) (hl : l.length ≤ 4096) (hB : Byt l) (w : World) (hA : Rd w.heap.size w A (u8s l)) :
    Calls Try.prog 24 #[.int .i64 s, .slice A l.length c] w fun e w' =>
    ∃ g, e = .returned (.slice (some ⟨g, 0, none⟩) l.length l.length) ∧ w'.ownsRow w.heap.size 5 1 (.slice (some ⟨g, 0, none⟩) l.length l.length) l.length (u8s (Sc.doN (Sc.own s) l)) ∧ Below w.heap.size w w' := by
  have HA := hide hA
  have HBy := hide hB
  clear hA hB
  go_enter Try.func24, Try.ntmps24
  go_wp2_with fail
  refine (stream_any s l.length hl _).mono ?_
  rintro e w1 ⟨g, rfl, hown, hbel⟩
  rw [← Sc.half_zero] at hown
  go_wp2_with fail
  go_loopw [13] (fun i wr => ∃ k : Nat, k ≤ l.length ∧ i = .int .i64 k ∧
    wr.ownsRow w.heap.size 5 1 (.slice (some ⟨g, 0, none⟩) l.length l.length) l.length (u8s (Sc.half (Sc.own s) l k)) ∧ Below w.heap.size w wr) (fun i _ => l.length - (intOf i).toNat)
  case atStart => exact ⟨0, Nat.zero_le _, rfl, hown, hbel⟩
  case round =>
    obtain ⟨k, hk, rfl, hownr, hb⟩ := hrel
    clear hown hbel
    by_cases hlt : k < l.length
    · obtain ⟨x, hx⟩ : ∃ x, l[k]? = some x := ⟨_, List.getElem?_eq_getElem hlt⟩
      obtain ⟨b1, o1, rfl, hbb, hc1⟩ := (HA.out.below hb (Nat.le_refl _)).at_ (u8s_get hx)
      have hc := own_cell hownr (u8s_get (Sc.half_at (Sc.own s) l hlt))
      have hf := hownr.frozenAt k
      have HBase := own_base hownr
      have HO := hide hownr
      have HX := hide hx
      clear hownr hx
      go_wp2
      go_region
      go_wp2
      go_roundw
      case rel =>
        refine ⟨k + 1, by omega, by go_num, ?_, (hb.setCell HBase _).drew⟩
        have := own_store HO.out k (.int .u8 ((Sc.oct (Sc.go (8 * k) (Sc.own s)) ^^^ x : Nat) : Int))
        rw [u8s_set, Sc.half_next _ HX.out, ← u8_xor_nat _ _ (Sc.oct_lt _) (HBy.out.at_ HX.out)] at this
        exact this
      case measure => simp [intOf]; omega
    · obtain rfl : k = l.length := by omega
      go_wp2
      go_ret
      rw [Sc.half_all] at hownr
      exact ⟨g, rfl, hownr, hb⟩

theorem rdo_long (s : Int) (A : Option Addr) (n c : Nat) (hn : 4096 < n) (h63 : n ≤ 9223372036854775807) (w : World) : Calls Try.prog 25 #[.int .i64 s, .slice A n c] w fun e w' => e = .returned (.slice none 0 0) ∧ w = w' := by
  go_enter Try.func25, Try.ntmps25
  go_wp2_with (go_at_call 23; refine (rstream_bad _ _ (Or.inr (by omega)) _).mono ?_; rintro e w' ⟨rfl, rfl⟩)
  refine wp_loop_rounds 1 ?_
  rw [rounds_succ]
  go_wp2
  go_ret
  exact ⟨rfl, rfl⟩

set_option maxHeartbeats 400000 in
/-- the reference's Do -/
theorem rdo_any (s : Int) (A : Option Addr) (c : Nat) (l : List Nat) (hl : l.length ≤ 4096) (hB : Byt l) (w : World) (hA : Rd w.heap.size w A (u8s l)) :
    Calls Try.prog 25 #[.int .i64 s, .slice A l.length c] w fun e w' =>
    ∃ v, e = .returned v ∧ w'.ownsRow w.heap.size 5 1 v l.length (u8s (Sc.doN (Sc.own s) l)) ∧ Below w.heap.size w w' := by
  obtain ⟨i0, hi, hz0, hz1, hz2⟩ := info_parts Try.infoU8
  have HA := hide hA
  have HBy := hide hB
  clear hA hB
  go_enter Try.func25, Try.ntmps25
  go_wp2_with fail
  refine (rstream_any s l.length hl _).mono ?_
  rintro e w1 ⟨v, rfl, hown, hbel⟩
  obtain ⟨A2, c2, rfl, hc2⟩ := own_val hown
  have HS := hide (own_rd hown)
  have HZ := hide hbel.size
  clear hown
  go_wp2_with fail
  go_loopw [6, 7] (fun v i wr => ∃ k : Nat, k ≤ l.length ∧ i = .int .i64 k ∧
    wr.ownsRow w1.heap.size 5 1 v k (u8s ((Sc.doN (Sc.own s) l).take k)) ∧ Below w1.heap.size w1 wr) (fun _ i _ => l.length - (intOf i).toNat)
  case atStart => exact ⟨0, Nat.zero_le _, rfl, World.ownsRow_nil _ _ _ _, Below.refl _ _⟩
  case round =>
    obtain ⟨k, hk, rfl, hownr, hb⟩ := hrel
    by_cases hlt : k < l.length
    · obtain ⟨x, hx⟩ : ∃ x, l[k]? = some x := ⟨_, List.getElem?_eq_getElem hlt⟩
      obtain ⟨b1, o1, rfl, hbb, hc1⟩ := ((HA.out.below hbel (Nat.le_refl _)).below hb HZ.out).at_ (u8s_get hx)
      obtain ⟨b2, o2, rfl, hbb2, hc3⟩ := (HS.out.below hb (Nat.le_refl _)).at_ (u8s_get (Sc.stream_get (Sc.own s) hlt))
      have HX := hide hx
      have HN := hide (Sc.doN_get (Sc.own s) hx)
      have hB := hb.size
      have hbb' : b1 < w1.heap.size := Nat.lt_of_lt_of_le hbb HZ.out
      clear hx
      have hl2 : k + 1 ≤ 9223372036854775807 := by omega
      have hl3 : (k + 1) * 1 ≤ 140737488355328 := by omega
      go_wp2
      go_region_held3 (fun w' => w'.cell? ⟨b1, o1 + k, none⟩ = some (.int .u8 (x : Int)) ∧ w'.cell? ⟨b2, o2 + k, none⟩ = some (.int .u8 ((Sc.oct (Sc.go (8 * k) (Sc.own s)) : Nat) : Int))) (first | exact keep2 (below_app (Below.refl _ wr).drew hownr hg1 hB) hbb' hbb2 hc1 hc3 | go_keep)
        ((refine step_app1 wr.drew (by rfl) (.tmp 18) (.tmp 28) 28 (by rfl) w1.heap.size 5 i0 (.int .u8 0) 1 Try.underlying28 hi hz0 hz1 hz2 (by rfl) u6 k (u8s ((Sc.doN (Sc.own s) l).take k)) (by rfl) hownr (.int .u8 (bits .xor .u8 (x : Int) ((Sc.oct (Sc.go (8 * k) (Sc.own s)) : Nat) : Int))) (by rfl) (by rfl) hl2 hl3 hB ?_; intro v' w2 hown1 hg1 hat1))
      go_wp2
      go_roundw
      case rel =>
        refine ⟨k + 1, by omega, by go_num, ?_, below_app hb.drew hownr hg1 hB⟩
        rw [List.take_add_one, HN.out]
        rw [u8_xor_nat _ _ (HBy.out.at_ HX.out) (Sc.oct_lt _), Nat.xor_comm] at hown1
        rw [u8s_app]
        exact hown1
      case measure => simp [intOf]; omega
    · obtain rfl : k = l.length := by omega
      go_wp2
      go_ret
      rw [List.take_of_length_le (by rw [Sc.doN_length]; exact Nat.le_refl _)] at hownr
      exact ⟨_, rfl, own_more hownr hbel.size, hbel.trans (hb.mono hbel.size)⟩
end Go.Proofs.Ytcbbnddhihmafaa
