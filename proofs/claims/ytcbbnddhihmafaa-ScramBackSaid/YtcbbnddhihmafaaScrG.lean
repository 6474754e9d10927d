/- The laws ScramStreams, walked: it returns true and turns nothing that was there. No conditions. -/
import Derived.Test.YtcbbnddhihmafaaScrF
namespace Go.Proofs.Ytcbbnddhihmafaa
open Go.RowKit
set_option linter.unusedVariables false

/-- the bytes of the row, at whatever number. -/
def Sc.strI (s n : Int) : List Nat := if n < 0 ∨ 4096 < n then [] else Sc.stream (Sc.own s) n.toNat
def Sc.doI (s : Int) (l : List Nat) : List Nat := if 4096 < l.length then [] else Sc.doN (Sc.own s) l
theorem Sc.strI_len (s n : Int) : (Sc.strI s n).length ≤ 4096 := by unfold Sc.strI; split <;> simp [Sc.stream_length]; omega
theorem Sc.doI_len (s : Int) (l : List Nat) : (Sc.doI s l).length ≤ 4096 := by unfold Sc.doI; split <;> simp [Sc.doN_length]; omega

/-- a slice of bytes that was made, or nil: it holds l. -/
def Made (w : World) (l : List Nat) (e : Ending) (w' : World) : Prop := ∃ A c, e = .returned (.slice A l.length c) ∧ Rd w'.heap.size w' A (u8s l) ∧ l.length ≤ c ∧ Below w.heap.size w w'

theorem stream_all (s n : Int) (w : World) : Calls Try.prog 22 #[.int .i64 s, .int .i64 n] w (Made w (Sc.strI s n)) := by
  by_cases h : n < 0 ∨ 4096 < n
  · refine (stream_bad s n h w).mono fun e w' ⟨he, hw⟩ => ?_
    subst hw
    have e0 : Sc.strI s n = [] := by unfold Sc.strI; rw [if_pos h]
    rw [e0]
    exact ⟨none, 0, he, Rd.nil _ _ _, Nat.le_refl _, Below.refl _ _⟩
  · obtain ⟨m, rfl⟩ := Int.eq_ofNat_of_zero_le (show 0 ≤ n by omega)
    refine (stream_any s m (by omega) w).mono fun e w' ⟨g, he, ho, hb⟩ => ?_
    have e0 : Sc.strI s m = Sc.stream (Sc.own s) m := by unfold Sc.strI; rw [if_neg h]; rfl
    rw [e0]
    exact ⟨_, _, by rw [Sc.stream_length]; exact he, own_rd ho, by rw [Sc.stream_length]; exact Nat.le_refl _, hb⟩
theorem rstream_all (s n : Int) (w : World) : Calls Try.prog 23 #[.int .i64 s, .int .i64 n] w (Made w (Sc.strI s n)) := by
  by_cases h : n < 0 ∨ 4096 < n
  · refine (rstream_bad s n h w).mono fun e w' ⟨he, hw⟩ => ?_
    subst hw
    have e0 : Sc.strI s n = [] := by unfold Sc.strI; rw [if_pos h]
    rw [e0]
    exact ⟨none, 0, he, Rd.nil _ _ _, Nat.le_refl _, Below.refl _ _⟩
  · obtain ⟨m, rfl⟩ := Int.eq_ofNat_of_zero_le (show 0 ≤ n by omega)
    refine (rstream_any s m (by omega) w).mono fun e w' ⟨v, he, ho, hb⟩ => ?_
    have e0 : Sc.strI s m = Sc.stream (Sc.own s) m := by unfold Sc.strI; rw [if_neg h]; rfl
    rw [e0]
    obtain ⟨A, c, rfl, hc⟩ := own_val ho
    exact ⟨A, c, by rw [Sc.stream_length]; exact he, own_rd ho, by rw [Sc.stream_length]; exact hc, hb⟩
theorem do_all (s : Int) (A : Option Addr) (c : Nat) (l : List Nat) (hl : l.length ≤ 9223372036854775807) (hB : Byt l) (w : World) (hA : Rd w.heap.size w A (u8s l)) : Calls Try.prog 24 #[.int .i64 s, .slice A l.length c] w (Made w (Sc.doI s l)) := by
  by_cases h : 4096 < l.length
  · refine (do_long s A l.length c h hl w).mono fun e w' ⟨he, hw⟩ => ?_
    subst hw
    have e0 : Sc.doI s l = [] := by unfold Sc.doI; rw [if_pos h]
    rw [e0]
    exact ⟨none, 0, he, Rd.nil _ _ _, Nat.le_refl _, Below.refl _ _⟩
  · refine (do_any s A c l (by omega) hB w hA).mono fun e w' ⟨g, he, ho, hb⟩ => ?_
    have e0 : Sc.doI s l = Sc.doN (Sc.own s) l := by unfold Sc.doI; rw [if_neg h]
    rw [e0]
    exact ⟨_, _, by rw [Sc.doN_length]; exact he, own_rd ho, by rw [Sc.doN_length]; exact Nat.le_refl _, hb⟩
theorem rdo_all (s : Int) (A : Option Addr) (c : Nat) (l : List Nat) (hl : l.length ≤ 9223372036854775807) (hB : Byt l) (w : World) (hA : Rd w.heap.size w A (u8s l)) : Calls Try.prog 25 #[.int .i64 s, .slice A l.length c] w (Made w (Sc.doI s l)) := by
  by_cases h : 4096 < l.length
  · refine (rdo_long s A l.length c h hl w).mono fun e w' ⟨he, hw⟩ => ?_
    subst hw
    have e0 : Sc.doI s l = [] := by unfold Sc.doI; rw [if_pos h]
    rw [e0]
    exact ⟨none, 0, he, Rd.nil _ _ _, Nat.le_refl _, Below.refl _ _⟩
  · refine (rdo_any s A c l (by omega) hB w hA).mono fun e w' ⟨v, he, ho, hb⟩ => ?_
    have e0 : Sc.doI s l = Sc.doN (Sc.own s) l := by unfold Sc.doI; rw [if_neg h]
    rw [e0]
    obtain ⟨A', c', rfl, hc⟩ := own_val ho
    exact ⟨A', c', by rw [Sc.doN_length]; exact he, own_rd ho, by rw [Sc.doN_length]; exact hc, hb⟩

theorem walk_ScramStreams (w : World) (s : Int) (hs : Fit s) (n : Int) (hn : Fit n) (a : Option Addr) (c : Nat) (l : List Nat) (hi : In8 w a c l) :
    Calls Try.prog 4 #[.int .i64 s, .int .i64 n, .slice a l.length c] w fun e w' => e = .returned (.bool true) ∧ Below w.heap.size w w' := by
  obtain ⟨hn1, hn2⟩ := hn
  have hll := hi.len
  by_cases hmid : 300 < n ∧ n ≤ 4096
  · obtain ⟨h1, h2⟩ := hmid
    go_enter Try.func4, Try.ntmps4
    go_wp2_with (go_at_call 15; refine (live09 _).mono ?_; rintro e w' ⟨rfl, hb⟩)
    go_ret
    exact ⟨rfl, hb⟩
  · by_cases hmid2 : 300 < l.length ∧ l.length ≤ 4096
    · obtain ⟨h1, h2⟩ := hmid2
      rcases (show n ≤ 300 ∨ (300 < n ∧ 4096 < n) by omega) with h | ⟨h, h'⟩
      all_goals
        clear hmid
        go_enter Try.func4, Try.ntmps4
        go_wp2_with (go_at_call 15; refine (live09 _).mono ?_; rintro e w' ⟨rfl, hb⟩)
        go_ret
        exact ⟨rfl, hb⟩
    · rcases (show n ≤ 300 ∨ (300 < n ∧ 4096 < n) by omega) with h | ⟨h, h'⟩
      all_goals
        rcases (show l.length ≤ 300 ∨ (300 < l.length ∧ 4096 < l.length) by omega) with g | ⟨g, g'⟩
        all_goals
          clear hmid hmid2
          go_enter Try.func4, Try.ntmps4
          go_wp2_with fail
          refine (stream_all _ _ _).mono ?_; rintro e w1 ⟨A1, c1, rfl, hr1, hc1, hb1⟩
          go_wp2_with fail
          refine (rstream_all _ _ _).mono ?_; rintro e w2 ⟨A2, c2, rfl, hr2, hc2, hb2⟩
          go_wp2_with fail
          refine (same_eq (hr1.on hb2) hr2 (Nat.le_trans (Sc.strI_len _ _) (by omega))).mono ?_; rintro e w3 ⟨rfl, hb3⟩
          have hB3 := below2 (below2 hb1 hb2 (Nat.le_refl _)) hb3 (Nat.le_refl _)
          clear hb1 hb2 hb3
          go_wp2_with fail
          refine (do_all s a c l hll hi.byt _ (hi.rd.on hB3)).mono ?_; rintro e w4 ⟨A4, c4, rfl, hr4, hc4, hb4⟩
          have hB4 := below2 hB3 hb4 (Nat.le_refl _)
          clear hb4
          go_wp2_with fail
          refine (rdo_all s a c l hll hi.byt _ (hi.rd.on hB4)).mono ?_; rintro e w5 ⟨A5, c5, rfl, hr5, hc5, hb5⟩
          go_wp2_with fail
          refine (same_eq (hr4.on hb5) hr5 (Nat.le_trans (Sc.doI_len _ _) (by omega))).mono ?_; rintro e w6 ⟨rfl, hb6⟩
          have hB6 := below2 (below2 hB4 hb5 (Nat.le_refl _)) hb6 (Nat.le_refl _)
          clear hb5 hb6
          go_wp2_with fail
          refine (live09 _).mono ?_; rintro e w7 ⟨rfl, hb7⟩
          go_wp2
          go_ret
          exact ⟨rfl, below2 hB6 hb7 (Nat.le_refl _)⟩
end Go.Proofs.Ytcbbnddhihmafaa
