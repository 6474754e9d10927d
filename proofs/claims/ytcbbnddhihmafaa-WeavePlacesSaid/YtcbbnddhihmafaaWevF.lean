/- Place of layer 11 and of its reference; Do and Undo whatever the input; the laws of layer 11, walked. No conditions. -/
import Derived.Test.YtcbbnddhihmafaaWevE
import Derived.Test.YtcbbnddhihmafaaIn
namespace Go.Proofs.Ytcbbnddhihmafaa
open Go.RowKit
set_option linter.unusedVariables false

/-- may bits, and rows, be? -/
abbrev Ok11 (n rows : Int) : Prop := 0 ≤ n ∧ n ≤ 65536 ∧ 1 ≤ rows ∧ rows ≤ 64

theorem place_no (n rows k : Int) (h : ¬ (Ok11 n rows ∧ 0 ≤ k ∧ k < n)) (w : World) : Calls Try.prog 27 #[.int .i64 n, .int .i64 rows, .int .i64 k] w fun e w' => e = .returned (.tuple #[.int .i64 0, .bool false]) ∧ w = w' := by
  by_cases hok : Ok11 n rows
  · obtain ⟨h1, h2, h3, h4⟩ := hok
    rcases (show k < 0 ∨ (0 ≤ k ∧ n ≤ k) by omega) with h5 | ⟨h5, h6⟩
    all_goals
      clear h
      go_enter Try.func27, Try.ntmps27
      go_wp2_with fail
      refine (right_yes _ _ h1 h2 h3 h4 _).mono ?_; rintro e w' ⟨rfl, rfl⟩
      go_wp2
      go_ret2
      exact ⟨rfl, rfl⟩
  · go_enter Try.func27, Try.ntmps27
    go_wp2_with fail
    refine (right_no _ _ hok _).mono ?_; rintro e w' ⟨rfl, rfl⟩
    go_wp2
    go_ret2
    exact ⟨rfl, rfl⟩
theorem place_yes (n rows k : Nat) (h1 : n ≤ 65536) (h2 : 0 < rows) (h3 : rows ≤ 64) (hk : k < n) (w : World) : Calls Try.prog 27 #[.int .i64 (n : Int), .int .i64 (rows : Int), .int .i64 (k : Int)] w fun e w' =>
    e = .returned (.tuple #[.int .i64 (((We.ord n rows).getD k 0 : Nat) : Int), .bool true]) ∧ Below w.heap.size w w' := by
  have hOl := We.length_ord n rows h2
  have hg := n64s_get (getD_of (show k < (We.ord n rows).length by omega))
  obtain ⟨O, hO⟩ : ∃ O, O = We.ord n rows := ⟨_, rfl⟩
  have HORD := hide (fun W => order_any n rows h1 h2 h3 W)
  rw [← hO] at hOl hg HORD
  rw [← hO]
  clear hO
  have HG := hide hg
  have e1 : (k : Int) < (n : Int) := by omega
  have hlo : n ≤ O.length := by omega
  clear hg hOl
  go_enter Try.func27, Try.ntmps27
  go_wp2_with fail
  refine (right_yes _ _ (by omega) (by omega) (by omega) (by omega) _).mono ?_; rintro e w' ⟨rfl, rfl⟩
  go_wp2_with fail
  refine (HORD.out _).mono ?_; rintro e w1 ⟨v1, rfl, ho, hb⟩
  obtain ⟨A1, c1, rfl, hc1⟩ := own_val ho
  obtain ⟨b1, o1, rfl, hbb, hc⟩ := (own_rd ho).at_ HG.out
  clear ho
  have e2 : (k : Int) < (O.length : Int) := by omega
  go_wp2
  go_ret2
  exact ⟨rfl, hb⟩
theorem rplace_no (n rows k : Int) (h : ¬ (Ok11 n rows ∧ 0 ≤ k ∧ k < n)) (w : World) : Calls Try.prog 28 #[.int .i64 n, .int .i64 rows, .int .i64 k] w fun e w' => e = .returned (.tuple #[.int .i64 0, .bool false]) ∧ w = w' := by
  by_cases hok : Ok11 n rows
  · obtain ⟨h1, h2, h3, h4⟩ := hok
    rcases (show k < 0 ∨ (0 ≤ k ∧ n ≤ k) by omega) with h5 | ⟨h5, h6⟩
    all_goals
      clear h
      go_enter Try.func28, Try.ntmps28
      go_wp2_with fail
      refine (rright_yes _ _ h1 h2 h3 h4 _).mono ?_; rintro e w' ⟨rfl, rfl⟩
      go_wp2
      go_ret2
      exact ⟨rfl, rfl⟩
  · go_enter Try.func28, Try.ntmps28
    go_wp2_with fail
    refine (rright_no _ _ hok _).mono ?_; rintro e w' ⟨rfl, rfl⟩
    go_wp2
    go_ret2
    exact ⟨rfl, rfl⟩
theorem rplace_yes (n rows k : Nat) (h1 : n ≤ 65536) (h2 : 0 < rows) (h3 : rows ≤ 64) (hk : k < n) (w : World) : Calls Try.prog 28 #[.int .i64 (n : Int), .int .i64 (rows : Int), .int .i64 (k : Int)] w fun e w' =>
    e = .returned (.tuple #[.int .i64 (((We.ord n rows).getD k 0 : Nat) : Int), .bool true]) ∧ Below w.heap.size w w' := by
  have hOl := We.length_ord n rows h2
  have hg := n64s_get (getD_of (show k < (We.ord n rows).length by omega))
  obtain ⟨O, hO⟩ : ∃ O, O = We.ord n rows := ⟨_, rfl⟩
  have HORD := hide (fun W => rorder_any n rows h1 h2 h3 W)
  rw [← hO] at hOl hg HORD
  rw [← hO]
  clear hO
  have HG := hide hg
  have e1 : (k : Int) < (n : Int) := by omega
  have hlo : n ≤ O.length := by omega
  clear hg hOl
  go_enter Try.func28, Try.ntmps28
  go_wp2_with fail
  refine (rright_yes _ _ (by omega) (by omega) (by omega) (by omega) _).mono ?_; rintro e w' ⟨rfl, rfl⟩
  go_wp2_with fail
  refine (HORD.out _).mono ?_; rintro e w1 ⟨v1, rfl, ho, hb⟩
  obtain ⟨A1, c1, rfl, hc1⟩ := own_val ho
  obtain ⟨b1, o1, rfl, hbb, hc⟩ := (own_rd ho).at_ HG.out
  clear ho
  have e2 : (k : Int) < (O.length : Int) := by omega
  go_wp2
  go_ret2
  exact ⟨rfl, hb⟩

/-- a text woven (unwoven); none, where it may not be. -/
def We.doI (l : List Nat) (rows : Int) : List Nat := if 8 * l.length ≤ 65536 ∧ 1 ≤ rows ∧ rows ≤ 64 then We.doT l rows.toNat else []
def We.undoI (l : List Nat) (rows : Int) : List Nat := if 8 * l.length ≤ 65536 ∧ 1 ≤ rows ∧ rows ≤ 64 then We.undoT l rows.toNat else []
theorem We.doI_len (l : List Nat) (rows : Int) : (We.doI l rows).length ≤ 8192 := by unfold We.doI; split <;> simp [We.doT_length]; omega
theorem We.undoI_len (l : List Nat) (rows : Int) : (We.undoI l rows).length ≤ 8192 := by unfold We.undoI; split <;> simp [We.undoT_length]; omega
/-- a slice of bytes that was made, or nil: it holds l. -/
def Made11 (w : World) (l : List Nat) (e : Ending) (w' : World) : Prop := ∃ A c, e = .returned (.slice A l.length c) ∧ Rd w'.heap.size w' A (u8s l) ∧ l.length ≤ c ∧ Below w.heap.size w w'
theorem made_none {w : World} {e : Ending} {w' : World} (he : e = .returned (.slice none 0 0)) (hw : w = w') : Made11 w [] e w' := by
  subst hw
  exact ⟨none, 0, he, Rd.nil _ _ _, Nat.le_refl _, Below.refl _ _⟩

theorem do_all (A : Option Addr) (c : Nat) (l : List Nat) (rows : Int) (h63 : l.length ≤ 140737488355328) (hB : Byt l) (w : World) (hA : Rd w.heap.size w A (u8s l)) :
    Calls Try.prog 43 #[.slice A l.length c, .int .i64 rows] w (Made11 w (We.doI l rows)) := by
  by_cases h : 8 * l.length ≤ 65536 ∧ 1 ≤ rows ∧ rows ≤ 64
  · have e0 : We.doI l rows = We.doT l rows.toNat := by unfold We.doI; rw [if_pos h]
    obtain ⟨h1, h2, h3⟩ := h
    obtain ⟨r, rfl⟩ := Int.eq_ofNat_of_zero_le (show 0 ≤ rows by omega)
    have HC := hide (laid_do A c l r h1 (by omega) (by omega) hB w hA)
    have HL := hide (We.lay_do l r (by omega))
    rw [e0]
    clear hA
    go_enter Try.func43, Try.ntmps43
    go_wp2_with fail
    refine HC.out.mono ?_; rintro e w1 ⟨g, rfl, ho, hb⟩
    rw [HL.out] at ho
    go_wp2
    go_ret
    exact ⟨_, _, by rw [We.doT_length]; rfl, own_rd ho, by rw [We.doT_length]; exact Nat.le_refl _, hb⟩
  · have e0 : We.doI l rows = [] := by unfold We.doI; rw [if_neg h]
    have HC := hide (laid_no A l.length c rows false h63 h w)
    rw [e0]
    clear hA h
    go_enter Try.func43, Try.ntmps43
    go_wp2_with fail
    refine HC.out.mono ?_; rintro e w1 ⟨rfl, rfl⟩
    go_wp2
    go_ret
    exact made_none rfl rfl
theorem undo_all (A : Option Addr) (c : Nat) (l : List Nat) (rows : Int) (h63 : l.length ≤ 140737488355328) (hB : Byt l) (w : World) (hA : Rd w.heap.size w A (u8s l)) :
    Calls Try.prog 45 #[.slice A l.length c, .int .i64 rows] w (Made11 w (We.undoI l rows)) := by
  by_cases h : 8 * l.length ≤ 65536 ∧ 1 ≤ rows ∧ rows ≤ 64
  · have e0 : We.undoI l rows = We.undoT l rows.toNat := by unfold We.undoI; rw [if_pos h]
    obtain ⟨h1, h2, h3⟩ := h
    obtain ⟨r, rfl⟩ := Int.eq_ofNat_of_zero_le (show 0 ≤ rows by omega)
    have HC := hide (laid_undo A c l r h1 (by omega) (by omega) hB w hA)
    rw [e0]
    clear hA
    go_enter Try.func45, Try.ntmps45
    go_wp2_with fail
    refine HC.out.mono ?_; rintro e w1 ⟨g, rfl, ho, hb⟩
    go_wp2
    go_ret
    exact ⟨_, _, by rw [We.undoT_length]; rfl, own_rd ho, by rw [We.undoT_length]; exact Nat.le_refl _, hb⟩
  · have e0 : We.undoI l rows = [] := by unfold We.undoI; rw [if_neg h]
    have HC := hide (laid_no A l.length c rows true h63 h w)
    rw [e0]
    clear hA h
    go_enter Try.func45, Try.ntmps45
    go_wp2_with fail
    refine HC.out.mono ?_; rintro e w1 ⟨rfl, rfl⟩
    go_wp2
    go_ret
    exact made_none rfl rfl
theorem rdo_all (A : Option Addr) (c : Nat) (l : List Nat) (rows : Int) (h63 : l.length ≤ 140737488355328) (hB : Byt l) (w : World) (hA : Rd w.heap.size w A (u8s l)) :
    Calls Try.prog 44 #[.slice A l.length c, .int .i64 rows] w (Made11 w (We.doI l rows)) := by
  by_cases h : 8 * l.length ≤ 65536 ∧ 1 ≤ rows ∧ rows ≤ 64
  · have e0 : We.doI l rows = We.doT l rows.toNat := by unfold We.doI; rw [if_pos h]
    obtain ⟨h1, h2, h3⟩ := h
    obtain ⟨r, rfl⟩ := Int.eq_ofNat_of_zero_le (show 0 ≤ rows by omega)
    rw [e0]
    refine (rdo11 A c l r h1 (by omega) (by omega) hB w hA).mono fun e w1 ⟨v, he, ho, hb⟩ => ?_
    obtain ⟨A1, c1, rfl, hc⟩ := own_val ho
    exact ⟨A1, c1, by rw [We.doT_length]; exact he, own_rd ho, by rw [We.doT_length]; exact hc, hb⟩
  · have e0 : We.doI l rows = [] := by unfold We.doI; rw [if_neg h]
    rw [e0]
    exact (rdo_no A l.length c rows h63 h w).mono fun e w1 ⟨he, hw⟩ => made_none he hw
theorem rundo_all (A : Option Addr) (c : Nat) (l : List Nat) (rows : Int) (h63 : l.length ≤ 140737488355328) (hB : Byt l) (w : World) (hA : Rd w.heap.size w A (u8s l)) :
    Calls Try.prog 46 #[.slice A l.length c, .int .i64 rows] w (Made11 w (We.undoI l rows)) := by
  by_cases h : 8 * l.length ≤ 65536 ∧ 1 ≤ rows ∧ rows ≤ 64
  · have e0 : We.undoI l rows = We.undoT l rows.toNat := by unfold We.undoI; rw [if_pos h]
    obtain ⟨h1, h2, h3⟩ := h
    obtain ⟨r, rfl⟩ := Int.eq_ofNat_of_zero_le (show 0 ≤ rows by omega)
    rw [e0]
    refine (rundo11 A c l r h1 (by omega) (by omega) hB w hA).mono fun e w1 ⟨v, he, ho, hb⟩ => ?_
    obtain ⟨A1, c1, rfl, hc⟩ := own_val ho
    exact ⟨A1, c1, by rw [We.undoT_length]; exact he, own_rd ho, by rw [We.undoT_length]; exact hc, hb⟩
  · have e0 : We.undoI l rows = [] := by unfold We.undoI; rw [if_neg h]
    rw [e0]
    exact (rundo_no A l.length c rows h63 h w).mono fun e w1 ⟨he, hw⟩ => made_none he hw

theorem place_a (w : World) : Calls Try.prog 27 #[.int .i64 4, .int .i64 2, .int .i64 1] w fun e w' => e = .returned (.tuple #[.int .i64 2, .bool true]) ∧ Below w.heap.size w w' := by
  have := place_yes 4 2 1 (by omega) (by omega) (by omega) (by omega) w
  rwa [show (We.ord 4 2).getD 1 0 = 2 by decide] at this
theorem place_b (w : World) : Calls Try.prog 27 #[.int .i64 4, .int .i64 2, .int .i64 2] w fun e w' => e = .returned (.tuple #[.int .i64 1, .bool true]) ∧ Below w.heap.size w w' := by
  have := place_yes 4 2 2 (by omega) (by omega) (by omega) (by omega) w
  rwa [show (We.ord 4 2).getD 2 0 = 1 by decide] at this
theorem do_a (w : World) (A : Option Addr) (c : Nat) (hA : Rd w.heap.size w A (u8s [240])) : Calls Try.prog 43 #[.slice A 1 c, .int .i64 2] w (Made11 w [170]) := by
  have := do_all A c [240] 2 (by decide) (by intro x hx; simp at hx; omega) w hA
  rwa [show We.doI [240] 2 = [170] by decide] at this

theorem live11 (w : World) : Calls Try.prog 26 #[] w fun e w' => e = .returned (.bool true) ∧ Below w.heap.size w w' := by
  go_enter Try.func26, Try.ntmps26
  go_wp2_with fail
  refine (place_a _).mono ?_; rintro e w1 ⟨rfl, hb1⟩
  go_wp2_with fail
  refine (place_b _).mono ?_; rintro e w2 ⟨rfl, hb2⟩
  have HB2 := hide (below2 hb1 hb2 (Nat.le_refl _))
  clear hb1 hb2
  go_wp2_with fail
  refine (do_a _ _ _ (by simpa [u8s] using rd_lit w2 [.int .u8 240] 5)).mono ?_; rintro e w3 ⟨A3, c3, rfl, hr3, hc3, hb3⟩
  have hB3 := below2 (HB2.out.alloc (by have := HB2.out.size; exact this) (.cells #[.int .u8 240] 5)) hb3 (Nat.le_refl _)
  have HB3 := hide hB3
  have HR3 := hide hr3
  clear hB3 hb3 hr3
  go_wp2_with fail
  refine (same_eq (B := w3.heap.size + 1) (l := [170]) ((HR3.out.on ((Below.refl _ _).alloc (Nat.le_refl _) _)).more (by simp)) (by simpa [u8s] using rd_lit w3 [.int .u8 170] 5) (by decide)).mono ?_
  rintro e w4 ⟨rfl, hb4⟩
  go_wp2
  go_ret
  exact ⟨rfl, below2 (HB3.out.alloc HB3.out.size _) hb4 (Nat.le_refl _)⟩

theorem walk_WeavePlaces (w : World) (n : Int) (hn : Fit n) (rows : Int) (hrows : Fit rows) (k : Int) (hk : Fit k) :
    Calls Try.prog 5 #[.int .i64 n, .int .i64 rows, .int .i64 k] w fun e w' => e = .returned (.bool true) ∧ Below w.heap.size w w' := by
  clear hn hrows hk
  by_cases hmid : 2000 < n ∧ n ≤ 65536
  · obtain ⟨h1, h2⟩ := hmid
    go_enter Try.func5, Try.ntmps5
    go_wp2_with (go_at_call 26; refine (live11 _).mono ?_; rintro e w' ⟨rfl, hb⟩)
    go_ret
    exact ⟨rfl, hb⟩
  · by_cases hok : Ok11 n rows ∧ 0 ≤ k ∧ k < n
    · obtain ⟨⟨h1, h2, h3, h4⟩, h5, h6⟩ := hok
      obtain ⟨n, rfl⟩ := Int.eq_ofNat_of_zero_le h1
      obtain ⟨rows, rfl⟩ := Int.eq_ofNat_of_zero_le (show 0 ≤ rows by omega)
      obtain ⟨k, rfl⟩ := Int.eq_ofNat_of_zero_le h5
      have hm : (n : Int) ≤ 2000 := by omega
      clear hmid
      go_enter Try.func5, Try.ntmps5
      go_wp2_with fail
      refine (place_yes n rows k (by omega) (by omega) (by omega) (by omega) _).mono ?_; rintro e w1 ⟨rfl, hb1⟩
      go_wp2_with fail
      refine (rplace_yes n rows k (by omega) (by omega) (by omega) (by omega) _).mono ?_; rintro e w2 ⟨rfl, hb2⟩
      go_wp2_with fail
      refine (live11 _).mono ?_; rintro e w3 ⟨rfl, hb3⟩
      go_wp2
      go_ret
      exact ⟨rfl, below2 (below2 hb1 hb2 (Nat.le_refl _)) hb3 (Nat.le_refl _)⟩
    · have HN := hide hok
      rcases (show n ≤ 2000 ∨ (2000 < n ∧ 65536 < n) by omega) with h | ⟨h, h'⟩
      all_goals
        clear hmid hok
        go_enter Try.func5, Try.ntmps5
        go_wp2_with fail
        refine (place_no n rows k HN.out _).mono ?_; rintro e w1 ⟨rfl, rfl⟩
        go_wp2_with fail
        refine (rplace_no n rows k HN.out _).mono ?_; rintro e w1 ⟨rfl, rfl⟩
        go_wp2_with fail
        refine (live11 _).mono ?_; rintro e w3 ⟨rfl, hb3⟩
        go_wp2
        go_ret
        exact ⟨rfl, hb3⟩
end Go.Proofs.Ytcbbnddhihmafaa
