/- Layer 28's live; the law GiverNil, walked. No conditions. -/
import Derived.Test.YtfcappddncnglaaGivG
import Derived.Test.YtfcappddncnglaaInG
import Derived.Test.YtfcappddncnglaaQueH
namespace Go.Proofs.Ytfcappddncnglaa
open Go.RowKit No
set_option linter.unusedVariables false
attribute [local go_sem ↓] Go.wp_at_zero Go.wp_at_succ

theorem rd_u64x2 (w : World) (x y : Nat) (t : TypeId) : Rd (w.alloc (.cells #[.int .u64 (x : Nat), .int .u64 (y : Nat)] t)).heap.size (w.alloc (.cells #[.int .u64 (x : Nat), .int .u64 (y : Nat)] t)) (some ⟨w.heap.size, 0, none⟩) (u64s [x, y]) := fun _ =>
  ⟨w.heap.size, 0, rfl, by simp, fun j u hj => by
    have hb := Blk.new w t [.int .u64 (x : Nat), .int .u64 (y : Nat)]
    rw [Nat.zero_add]
    exact hb.cell hj⟩
theorem toks_lit (w : World) (ty : TypeId) (k T C R : Nat) {K X Y Z : Int} (h1 : K = k) (h2 : X = T) (h3 : Y = C) (h4 : Z = R) : Toks (w.alloc (.cells #[.int .i64 K, .int .u64 X, .int .u64 Y, .int .u64 Z, .slice none 0 0] ty)) (some ⟨w.heap.size, 0, none⟩) [(k, T, C, R)] := by
  subst h1 h2 h3 h4
  exact toks_one w (k, T, C, R) ty
theorem toks_sameN {A C : Option Addr} {c d n : Nat} {ts : List Tok} {w : World} (hn : ts.length = n) (hA : Toks w A ts) (hC : Toks w C ts) (hl : n ≤ 9223372036854775807) :
    Calls Try.prog 56 #[.slice A n c, .slice C n d] w fun e w' => e = .returned (.bool true) ∧ Below w.heap.size w w' := by
  subst hn
  exact toks_same hA hC hl
/-- the states of the page's example. -/
def g28a : Gst := ⟨[], [9], 0, 0, 9, false, 0, 0, false, 0⟩
def g28b : Gst := ⟨[], [9, 8], 0, 0, 9, true, 5, 8, false, 0⟩
def g28c : Gst := ⟨[[97]], [9, 8], 1, 0, 9, false, 5, 8, true, 5⟩
def g28d : Gst := ⟨[], [9, 8], 1, 1, 9, false, 5, 8, true, 5⟩
set_option maxRecDepth 100000 in
set_option maxHeartbeats 4000000 in
theorem live28 (w : World) : Calls Try.prog 50 #[] w fun e w' => e = .returned (.bool true) ∧ Below w.heap.size w w' := by
  have HSN := hide (fun W => src_new (some ⟨W.heap.size, 0, none⟩) 2 [9, 8] (by simp) (W.alloc (.cells #[.int .u64 (9 : Nat), .int .u64 (8 : Nat)] 94)) (rd_u64x2 W 9 8 _))
  go_enter Try.func50, Try.ntmps50
  go_wp2_with fail
  refine (HSN.out w).mono ?_; rintro e w1 ⟨gs, Fs, rfl, hs, hb⟩
  have hb1 : Below w.heap.size w w1 := below2 ((Below.refl _ _).alloc (Nat.le_refl _) _) hb (by simp)
  have hs1 : Src w1 w.heap.size gs [9, 8] [] Fs := ⟨hs.1.down (by simp), hs.2⟩
  have HS := hide hs1
  have HB1 := hide hb1
  have HGN := hide (gv_new 2 (by omega) (by omega) hs1 hb1.size (by simp) (by simp))
  clear hs hb hs1 hb1
  go_wp2_with fail
  refine HGN.out.mono ?_; rintro e w2 ⟨gx, F2, rfl, hg, ht⟩
  have HG2 : Hid (Gv w2 w.heap.size gx gs 2 [9, 8] g28a F2) := hg
  have HB2 := hide (ht.below HB1.out HS.out.1 HB1.out.size)
  have HTK : Hid (Calls Try.prog 57 #[.pointer (some ⟨gx, 0, none⟩), .agg #[.int .i64 0, .int .u64 5, .int .u64 0, .int .u64 0, .slice none 0 0]] w2 fun e w' => ∃ A c F', e = .returned (.slice A 1 c) ∧ Toks w' A [(1, 5, 8, 9)] ∧ Gv w' w.heap.size gx gs 2 [9, 8] g28b F' ∧ Turn F2 F' w2 w' ∧ NewA A w2 F') :=
    gv_take HG2.out (by simp) (by simp [g28a]) (by simp [g28a]) ⟨0, 5, 0, 0, []⟩ none 0 (Rd.nil _ _ _)
  clear hg ht HGN
  go_wp2_with fail
  refine HTK.out.mono ?_; rintro e w3 ⟨A3, c3, F3, rfl, ht3, hg3, hu3, hn3⟩
  have HT3 := hide ht3
  have HN3 := hide hn3
  have HG3 := hide hg3
  have HB3 := hide (hu3.below HB2.out HG2.out.foot HB2.out.size)
  have HW4 : Hid (Calls Try.prog 57 #[.pointer (some ⟨gx, 0, none⟩), .agg #[.int .i64 2, .int .u64 5, .int .u64 8, .int .u64 0, .slice (some ⟨w3.heap.size, 0, none⟩) 1 1]] (w3.alloc (.cells #[.int .u8 97] 5 (1, 2))) fun e w' => ∃ A c F', e = .returned (.slice A 0 c) ∧ Toks w' A [] ∧ Gv w' w.heap.size gx gs 2 [9, 8] g28c F' ∧ Turn F3 F' (w3.alloc (.cells #[.int .u8 97] 5 (1, 2))) w' ∧ NewA A (w3.alloc (.cells #[.int .u8 97] 5 (1, 2))) F') :=
    gv_take (hg3.on ((Below.refl _ _).alloc (Nat.le_refl _) _)) (by simp) (by simp [g28b]) (by simp [g28b]) ⟨2, 5, 8, 0, [97]⟩ (some ⟨w3.heap.size, 0, none⟩) 1 (rd_lit1 w3 97)
  have HBA := hide ((Below.refl w3.heap.size w3).alloc (Nat.le_refl _) (.cells #[.int .u8 97] 5 (1, 2)))
  have HF3 := hide (hg3.on HBA.out).foot
  have kc := conv1
  clear ht3 hg3 hu3 hn3 HTK
  go_wp2_with fail
  refine HW4.out.mono ?_; rintro e w4 ⟨A4, c4, F4, rfl, ht4, hg4, hu4, hn4⟩
  have HG4 := hide hg4
  have HB4 := hide (hu4.below (below2 HB3.out HBA.out (Nat.le_refl _)) HF3.out (Nat.le_trans HB3.out.size HBA.out.size))
  have HRC : Hid (Calls Try.prog 59 #[.pointer (some ⟨gx, 0, none⟩)] w4 fun e w' => ∃ A c A2 c2 F', e = .returned (.tuple #[.slice A 1 c, .slice A2 1 c2, .bool true]) ∧ w'.ownsRow w4.heap.size 5 1 (.slice A 1 c) 1 (u8s [97]) ∧ Toks w' A2 [(3, 5, 0, 9)] ∧ Gv w' w.heap.size gx gs 2 [9, 8] g28d F' ∧ Turn F4 F' w4 w' ∧ NewA A2 w4 F') :=
    gv_recv hg4 (by simp [g28c])
  have hlt3 : ∀ b o s, A3 = some ⟨b, o, s⟩ → b < w3.heap.size := fun b o s e => by
    obtain ⟨b', o', e', hb', _⟩ := HT3.out 0 _ rfl
    rw [e] at e'
    injection e' with e'
    injection e' with e1
    rw [e1]; exact hb'
  have HLT := hide hlt3
  have HX4 : Hid (Toks w4 A3 [(1, 5, 8, 9)]) := (HT3.out.on HBA.out).kept (fun b o s e => hu4.block b (Nat.lt_of_lt_of_le (hlt3 b o s e) HBA.out.size) (HN3.out b o s e).2) hu4.size
  have HN4 : Hid (∀ b o s, A3 = some ⟨b, o, s⟩ → b < w4.heap.size ∧ ¬ F4 b) := fun b o s e => ⟨Nat.lt_of_lt_of_le (Nat.lt_of_lt_of_le (hlt3 b o s e) HBA.out.size) hu4.size, fun hf => (hu4.new b hf).elim (HN3.out b o s e).2 (fun h => by have := hlt3 b o s e; have := HBA.out.size; omega)⟩
  clear hlt3
  clear ht4 hg4 hu4 hn4 HW4 kc
  go_wp2_with fail
  refine HRC.out.mono ?_; rintro e w5 ⟨A5, c5, A6, c6, F5, rfl, ho5, ht5, hg5, hu5, hn5⟩
  have HX5 : Hid (Toks w5 A3 [(1, 5, 8, 9)]) := HX4.out.kept (fun b o s e => hu5.block b (HN4.out b o s e).1 (HN4.out b o s e).2) hu5.size
  have HB5 := hide (hu5.below HB4.out HG4.out.foot HB4.out.size)
  have HT5 := hide ht5
  have HO5 := hide (own_rd ho5)
  clear ho5 ht5 hg5 hu5 hn5 HRC
  go_wp2_with fail
  refine (num28 _ _).mono ?_; rintro e w' ⟨rfl, rfl⟩
  have HS1 := hide (toks_sameN (c := c3) (d := 1) (n := 1) rfl (HX5.out.on ((Below.refl w5.heap.size w5).alloc (Nat.le_refl _) (.cells #[.int .i64 1, .int .u64 5, .int .u64 8, .int .u64 9, .slice none 0 0] 96))) (toks_lit w5 96 1 5 8 9 rfl rfl rfl rfl) (by omega))
  go_wp2_with fail
  refine HS1.out.mono ?_; rintro e w6 ⟨rfl, hb6⟩
  have HB6 := hide (below2 ((Below.refl w5.heap.size w5).alloc (Nat.le_refl _) _) hb6 (by simp))
  have hcv := run_text (P := Try.prog) (c := c5) (src := 33) (dst := 9) Try.underlying33 Try.underlying5 Try.underlying9 (HO5.out.on HB6.out) (by simp)
  rw [show strOfNums (([97] : List Nat).map fun n : Nat => (n : Int)) = ⟨#[97]⟩ from rfl, show ([97] : List Nat).length = 1 from rfl] at hcv
  have HS2 := hide (toks_sameN (c := c6) (d := 1) (n := 1) rfl ((HT5.out.on HB6.out).on ((Below.refl w6.heap.size w6).alloc (Nat.le_refl _) (.cells #[.int .i64 3, .int .u64 5, .int .u64 0, .int .u64 9, .slice none 0 0] 96))) (toks_lit w6 96 3 5 0 9 rfl rfl rfl rfl) (by omega))
  clear hb6
  go_wp2_with fail
  refine HS2.out.mono ?_; rintro e w7 ⟨rfl, hb7⟩
  have HB7 := hide (below2 HB5.out (below2 HB6.out (below2 ((Below.refl w6.heap.size w6).alloc (Nat.le_refl _) _) hb7 (by simp)) (Nat.le_refl _)) (Nat.le_refl _))
  clear hb7 hcv
  go_wp2
  go_ret
  exact ⟨rfl, HB7.out⟩
end Go.Proofs.Ytfcappddncnglaa
