/- The laws WeaveDoes and WeaveBack, walked: each returns true and turns nothing that was there. No conditions. -/
import Derived.Test.YtcbbnddhihmafaaWevF
namespace Go.Proofs.Ytcbbnddhihmafaa
open Go.RowKit
set_option linter.unusedVariables false

theorem walk_WeaveDoes (w : World) (a : Option Addr) (c : Nat) (l : List Nat) (hi : In8 w a c l) (rows : Int) (hrows : Fit rows) :
    Calls Try.prog 10 #[.slice a l.length c, .int .i64 rows] w fun e w' => e = .returned (.bool true) ∧ Below w.heap.size w w' := by
  clear hrows
  have hll := hi.reach
  by_cases hmid : 200 < l.length ∧ l.length ≤ 8192
  · obtain ⟨h1, h2⟩ := hmid
    go_enter Try.func10, Try.ntmps10
    go_wp2_with (go_at_call 26; refine (live11 _).mono ?_; rintro e w' ⟨rfl, hb⟩)
    go_ret
    exact ⟨rfl, hb⟩
  · rcases (show l.length ≤ 200 ∨ (200 < l.length ∧ 8192 < l.length) by omega) with g | ⟨g, g'⟩
    all_goals
      clear hmid
      go_enter Try.func10, Try.ntmps10
      go_wp2_with fail
      refine (do_all a c l rows hll hi.byt _ hi.rd).mono ?_; rintro e w1 ⟨A1, c1, rfl, hr1, hc1, hb1⟩
      go_wp2_with fail
      refine (rdo_all a c l rows hll hi.byt _ (hi.rd.on hb1)).mono ?_; rintro e w2 ⟨A2, c2, rfl, hr2, hc2, hb2⟩
      go_wp2_with fail
      refine (same_eq (hr1.on hb2) hr2 (Nat.le_trans (We.doI_len _ _) (by omega))).mono ?_; rintro e w3 ⟨rfl, hb3⟩
      have hB3 := below2 (below2 hb1 hb2 (Nat.le_refl _)) hb3 (Nat.le_refl _)
      clear hb1 hb2 hb3 hr1 hr2
      go_wp2_with fail
      refine (undo_all a c l rows hll hi.byt _ (hi.rd.on hB3)).mono ?_; rintro e w4 ⟨A4, c4, rfl, hr4, hc4, hb4⟩
      have hB4 := below2 hB3 hb4 (Nat.le_refl _)
      clear hb4
      go_wp2_with fail
      refine (rundo_all a c l rows hll hi.byt _ (hi.rd.on hB4)).mono ?_; rintro e w5 ⟨A5, c5, rfl, hr5, hc5, hb5⟩
      go_wp2_with fail
      refine (same_eq (hr4.on hb5) hr5 (Nat.le_trans (We.undoI_len _ _) (by omega))).mono ?_; rintro e w6 ⟨rfl, hb6⟩
      have hB6 := below2 (below2 hB4 hb5 (Nat.le_refl _)) hb6 (Nat.le_refl _)
      clear hb5 hb6 hr4 hr5
      go_wp2_with fail
      refine (live11 _).mono ?_; rintro e w7 ⟨rfl, hb7⟩
      go_wp2
      go_ret
      exact ⟨rfl, below2 hB6 hb7 (Nat.le_refl _)⟩

theorem We.byt_pack {y : List Nat} (h : We.Bit y) (m : Nat) : Byt (We.pack m y) := by
  intro x hx
  simp only [We.pack, List.mem_map] at hx
  obtain ⟨t, _, rfl⟩ := hx
  exact We.val8_lt h _
theorem We.back1 (l : List Nat) (hB : Byt l) (rows : Int) (hl : l.length ≤ 200) (h1 : 1 ≤ rows) (h2 : rows ≤ 64) : Byt (We.doI l rows) ∧ We.undoI (We.doI l rows) rows = l ∧ (We.doI l rows).length ≤ 200 := by
  have e0 : We.doI l rows = We.doT l rows.toNat := by unfold We.doI; rw [if_pos ⟨by omega, h1, h2⟩]
  rw [e0]
  refine ⟨We.byt_pack (We.doBits_bit _ _) _, ?_, by rw [We.doT_length]; exact hl⟩
  unfold We.undoI
  rw [if_pos ⟨by rw [We.doT_length]; omega, h1, h2⟩]
  exact We.undo_do l _ (by omega) hB
theorem We.back2 (l : List Nat) (hB : Byt l) (rows : Int) (hl : l.length ≤ 200) (h1 : 1 ≤ rows) (h2 : rows ≤ 64) : Byt (We.undoI l rows) ∧ We.doI (We.undoI l rows) rows = l ∧ (We.undoI l rows).length ≤ 200 := by
  have e0 : We.undoI l rows = We.undoT l rows.toNat := by unfold We.undoI; rw [if_pos ⟨by omega, h1, h2⟩]
  rw [e0]
  refine ⟨We.byt_pack (We.layTo_bit _ _ _ _) _, ?_, by rw [We.undoT_length]; exact hl⟩
  unfold We.doI
  rw [if_pos ⟨by rw [We.undoT_length]; omega, h1, h2⟩]
  exact We.do_undo l _ (by omega) hB

theorem walk_WeaveBack (w : World) (a : Option Addr) (c : Nat) (l : List Nat) (hi : In8 w a c l) (rows : Int) (hrows : Fit rows) :
    Calls Try.prog 11 #[.slice a l.length c, .int .i64 rows] w fun e w' => e = .returned (.bool true) ∧ Below w.heap.size w w' := by
  clear hrows
  have hll := hi.reach
  by_cases hok : l.length ≤ 200 ∧ 1 ≤ rows ∧ rows ≤ 64
  · obtain ⟨h1, h2, h3⟩ := hok
    obtain ⟨hb1, he1, hl1⟩ := We.back1 l hi.byt rows h1 h2 h3
    obtain ⟨hb2, he2, hl2⟩ := We.back2 l hi.byt rows h1 h2 h3
    have HB1 := hide hb1
    have HE1 := hide he1
    have HB2 := hide hb2
    have HE2 := hide he2
    clear hb1 he1 hb2 he2
    go_enter Try.func11, Try.ntmps11
    go_wp2_with fail
    refine (do_all a c l rows hll hi.byt _ hi.rd).mono ?_; rintro e w1 ⟨A1, c1, rfl, hr1, hc1, hb1⟩
    go_wp2_with fail
    refine (undo_all A1 c1 _ rows (by omega) HB1.out _ hr1).mono ?_; rintro e w2 ⟨A2, c2, rfl, hr2, hc2, hb2⟩
    rw [HE1.out] at hr2
    have hB2 := below2 hb1 hb2 (Nat.le_refl _)
    clear hb1 hb2 hr1
    rw [HE1.out]
    go_wp2_with fail
    refine (same_eq hr2 (hi.rd.on hB2) (by omega)).mono ?_; rintro e w3 ⟨rfl, hb3⟩
    have hB3 := below2 hB2 hb3 (Nat.le_refl _)
    clear hb3 hr2 hB2
    go_wp2_with fail
    refine (undo_all a c l rows hll hi.byt _ (hi.rd.on hB3)).mono ?_; rintro e w4 ⟨A4, c4, rfl, hr4, hc4, hb4⟩
    have hB4 := below2 hB3 hb4 (Nat.le_refl _)
    clear hb4 hB3
    go_wp2_with fail
    refine (do_all A4 c4 _ rows (by omega) HB2.out _ hr4).mono ?_; rintro e w5 ⟨A5, c5, rfl, hr5, hc5, hb5⟩
    rw [HE2.out] at hr5
    have hB5 := below2 hB4 hb5 (Nat.le_refl _)
    clear hb5 hB4 hr4
    rw [HE2.out]
    go_wp2_with fail
    refine (same_eq hr5 (hi.rd.on hB5) (by omega)).mono ?_; rintro e w6 ⟨rfl, hb6⟩
    have hB6 := below2 hB5 hb6 (Nat.le_refl _)
    clear hb6 hr5 hB5
    go_wp2_with fail
    refine (live11 _).mono ?_; rintro e w7 ⟨rfl, hb7⟩
    go_wp2
    go_ret
    exact ⟨rfl, below2 hB6 hb7 (Nat.le_refl _)⟩
  · rcases (show 200 < l.length ∨ (l.length ≤ 200 ∧ rows < 1) ∨ (l.length ≤ 200 ∧ 1 ≤ rows ∧ 64 < rows) by omega) with g | ⟨g, g'⟩ | ⟨g, g', g''⟩
    all_goals
      clear hok
      go_enter Try.func11, Try.ntmps11
      go_wp2_with (go_at_call 26; refine (live11 _).mono ?_; rintro e w' ⟨rfl, hb⟩)
      go_ret
      exact ⟨rfl, hb⟩

end Go.Proofs.Ytcbbnddhihmafaa
