/- Layer 18's tally: Best, Rows. No conditions. -/
import Derived.Test.YtnbhgeodbpelgaaTalE
import Derived.Deep.Cut
namespace Go.Proofs.Ytnbhgeodbpelgaa
open Go.RowKit Go.Maps
set_option linter.unusedVariables false
attribute [local go_sem ↓] Go.wp_at_zero Go.wp_at_succ

def BestR (b : List Nat × Nat) (w : World) (e : Ending) (w' : World) : Prop :=
  ∃ A c, e = .returned (.tuple #[.slice A b.1.length c, .int .u64 (b.2 : Nat)]) ∧ w'.ownsRow w.heap.size 5 1 (.slice A b.1.length c) b.1.length (u8s b.1) ∧ Below w.heap.size w w'
/-- what the loop over the rows keeps: the best so far, in a block. -/
def KeepB (w wr : World) (ty : TypeId) (b : List Nat × Nat) : Prop := ∃ lb D c, Blk wr w.heap.size ty [.int .i64 lb, .slice D b.1.length c, .int .u64 (b.2 : Nat)] ∧ Rd w.heap.size w D (u8s b.1) ∧ Below w.heap.size w wr
section
variable {w w' : World} {B gt bm cV : Nat} {V : Option Addr} {s : List Trow} {F : Nat → Prop}
theorem blk_three {w : World} {g : Nat} {ty : TypeId} {a b c a' b' c' : Value} (h : Blk w g ty [a, b, c]) : Blk (((w.setCell ⟨g, 0, none⟩ a').setCell ⟨g, 1, none⟩ b').setCell ⟨g, 2, none⟩ c') g ty [a', b', c'] := ((h.set 0 a').set 1 b').set 2 c'
set_option maxRecDepth 100000 in
set_option maxHeartbeats 4000000 in
theorem ta_best (h : Ta w B gt s F) (hT : tot s ≤ 1000000) (lb : Int) : Calls Try.prog 49 #[.pointer (some ⟨gt, 0, none⟩), .int .i64 lb] w (BestR (bestT s lb) w) := by
  have HI := hide (ta_is h)
  obtain ⟨bm, V, cV, h⟩ := h
  have hlen : s.length ≤ 1000000 := Nat.le_trans h.ok.len hT
  have hbl := hide (best_len (n := 1000000) (fun r hr => (h.ok r hr).2.2.1) lb)
  obtain ⟨w1, hw1⟩ : ∃ w1, w1 = w.alloc (.cells #[.int .i64 0, .slice none 0 0, .int .u64 0] 96) := ⟨_, rfl⟩
  have hb1 : Below w.heap.size w w1 := by rw [hw1]; exact (Below.refl _ _).alloc (Nat.le_refl _) _
  have HK1 : Hid (KeepB w w1 96 (bestT (s.take 0) lb)) := ⟨0, none, 0, by rw [hw1]; exact Blk.new w _ _, Rd.nil _ _ _, hb1⟩
  obtain ⟨_, c1⟩ := (h.on hb1).cells
  have HH := hide h
  have HW1 := hide hw1
  clear h hw1 hb1
  go_enter Try.func49, Try.ntmps49
  go_wp2_with fail
  refine HI.out.mono ?_; rintro e w' ⟨rfl, rfl⟩
  go_upto_region 4 with (fail)
  rw [← HW1.out]
  go_wp2
  go_loopw [17] (fun i wr => ∃ k : Nat, k ≤ s.length ∧ i = .int .i64 k ∧ Hid (KeepB w wr 96 (bestT (s.take k) lb))) (fun i _ => s.length - (intOf i).toNat)
  case atStart => exact ⟨0, Nat.zero_le _, rfl, HK1.out⟩
  case round =>
    obtain ⟨k, hk, rfl, hrel⟩ := hrel
    obtain ⟨lb0, D0, c0, hbk0, hrd0, hb0⟩ := hrel.out
    clear c1 HK1
    by_cases hlt : k < s.length
    · obtain ⟨r, hr⟩ : ∃ r, s[k]? = some r := ⟨_, List.getElem?_eq_getElem hlt⟩
      have HBT := hide (best_take s lb hr)
      obtain ⟨bst, hbst⟩ : ∃ b, b = bestT (s.take k) lb := ⟨_, rfl⟩
      rw [← hbst] at HBT hbk0 hrd0
      obtain ⟨rl, rm, rc⟩ := r
      obtain ⟨b, D, cD, hVe, hbl2, _, p0, p1, p2, _, hrd, _⟩ := HH.out.rows.get hr
      have q0 := (hb0.cell (p := ⟨b, k * 3, none⟩) hbl2).trans p0
      have q1 := (hb0.cell (p := ⟨b, k * 3 + 1, none⟩) hbl2).trans p1
      have q2 := (hb0.cell (p := ⟨b, k * 3 + 2, none⟩) hbl2).trans p2
      dsimp only at q0 q1 q2 hrd
      subst hVe
      have g0 : (0 : Int) ≤ (k : Int) := by omega
      have g1 : (k : Int) < (s.length : Int) := by omega
      obtain ⟨w2, hw2⟩ : ∃ w2, w2 = wr.alloc (.cells #[.int .i64 rl, .slice D rm.length cD, .int .u64 (rc : Nat)] 96) := ⟨_, rfl⟩
      have hx2 : Blk w2 wr.heap.size 96 [.int .i64 rl, .slice D rm.length cD, .int .u64 (rc : Nat)] := by rw [hw2]; exact Blk.new wr _ _
      have hb12 : Below wr.heap.size wr w2 := by rw [hw2]; exact (Below.refl _ _).alloc (Nat.le_refl _) _
      have hg2 := hbk0.on hb12
      have x0 := hx2.cell (i := 0) rfl
      have x1 := hx2.cell (i := 1) rfl
      have x2 := hx2.cell (i := 2) rfl
      have y0 := hg2.cell (i := 0) rfl
      have y1 := hg2.cell (i := 1) rfl
      have y2 := hg2.cell (i := 2) rfl
      have z0 := hg2.free 0
      have z1 := hg2.free 1
      have z2 := hg2.free 2
      have hne : wr.heap.size ≠ w.heap.size := fun e => by have := hbk0.lt; omega
      have HG2 := hide hg2
      have HR2 := hide hrd
      have HR0 := hide hrd0
      have HB2 := hide (below2 hb0 hb12 (Nat.le_refl _))
      have HW2 := hide hw2
      clear hbst hr hw2 hg2 hx2 hb12 hrd hrd0 hbk0 hb0 hrel hbl2 p0 p1 p2
      by_cases hc : rl = lb ∧ bst.2 < rc
      · obtain ⟨rfl, hc2⟩ := hc
        have HBE : Hid (bestT (s.take (k + 1)) rl = (rm, rc)) := by rw [HBT.out]; unfold bestF; exact if_pos ⟨rfl, hc2⟩
        have hc3 : (bst.2 : Int) < (rc : Int) := by omega
        clear hc2 HBT
        go_upto_region 7 with (fail)
        rw [← HW2.out]
        go_wp2
        go_roundw
        case rel =>
          refine ⟨k + 1, by omega, by go_num, ?_⟩
          show KeepB _ _ _ _
          rw [HBE.out]
          exact ⟨_, D, cD, blk_three HG2.out, HR2.out, (((HB2.out.setCell (p := ⟨w.heap.size, 0, none⟩) (Nat.le_refl _) _).setCell (p := ⟨w.heap.size, 1, none⟩) (Nat.le_refl _) _).setCell (p := ⟨w.heap.size, 2, none⟩) (Nat.le_refl _) _)⟩
        case measure => simp [intOf]; omega
      · have HBE : Hid (bestT (s.take (k + 1)) lb = bst) := by rw [HBT.out]; unfold bestF; exact if_neg hc
        by_cases hl : rl = lb
        · have hc3 : ¬ (bst.2 : Int) < (rc : Int) := fun h => hc ⟨hl, by omega⟩
          subst hl
          clear hc HBT
          go_upto_region 7 with (fail)
          rw [← HW2.out]
          go_wp2
          go_roundw
          case rel =>
            refine ⟨k + 1, by omega, by go_num, ?_⟩
            show KeepB _ _ _ _
            rw [HBE.out]
            exact ⟨_, D0, c0, HG2.out, HR0.out, HB2.out⟩
          case measure => simp [intOf]; omega
        · have hl3 : (rl == lb) = false := by simp; exact hl
          clear hc HBT hl
          go_upto_region 7 with (fail)
          rw [← HW2.out]
          go_wp2
          go_roundw
          case rel =>
            refine ⟨k + 1, by omega, by go_num, ?_⟩
            show KeepB _ _ _ _
            rw [HBE.out]
            exact ⟨_, D0, c0, HG2.out, HR0.out, HB2.out⟩
          case measure => simp [intOf]; omega
    · obtain rfl : k = s.length := by omega
      rw [List.take_length] at hbk0 hrd0
      obtain ⟨bst, hbst⟩ : ∃ b, b = bestT s lb := ⟨_, rfl⟩
      have hbl := hbl.out
      rw [← hbst] at hbk0 hrd0 hbl
      have HBST := hide hbst
      have HJ : Hid (Calls Try.prog 88 #[.slice (some ⟨wr.heap.size, 0, none⟩) 1 1] (wr.alloc (.cells #[.slice D0 bst.1.length c0] 34)).drew (NewT bst.1 (wr.alloc (.cells #[.slice D0 bst.1.length c0] 34)).drew)) :=
        hide (join_one wr.drew D0 c0 bst.1 ((hrd0.below hb0 (Nat.le_refl _)).more hb0.size) (by omega))
      have HBK := hide hbk0
      have HY := hide (fun (w5 : World) (hb5 : Below (wr.alloc (.cells #[.slice D0 bst.1.length c0] 34)).drew.heap.size (wr.alloc (.cells #[.slice D0 bst.1.length c0] 34)).drew w5) => (show w5.cell? ⟨w.heap.size, 1, none⟩ = some (.slice D0 bst.1.length c0) ∧ w5.cell? ⟨w.heap.size, 2, none⟩ = some (.int .u64 (bst.2 : Nat)) from
        ⟨(Blk.on (Blk.drew (hbk0.alloc (.cells #[.slice D0 bst.1.length c0] 34))) hb5).cell (i := 1) rfl, (Blk.on (Blk.drew (hbk0.alloc (.cells #[.slice D0 bst.1.length c0] 34))) hb5).cell (i := 2) rfl⟩))
      have y1 := hbk0.cell (i := 1) rfl
      have y2 := hbk0.cell (i := 2) rfl
      have HB0 : Hid (Below w.heap.size w (wr.alloc (.cells #[.slice D0 bst.1.length c0] 34)).drew) := (hb0.alloc (hb0.size) _).drew
      clear hbk0 hrd0 hb0 hrel hbst hbl hlt hk
      go_wp2
      go_region_held3 (fun W => W.cell? ⟨w.heap.size, 1, none⟩ = some (.slice D0 bst.1.length c0) ∧ W.cell? ⟨w.heap.size, 2, none⟩ = some (.int .u64 (bst.2 : Nat))) (first
          | exact HY.out _ hb5
          | exact ⟨(HBK.out.alloc _).cell (i := 1) rfl, (HBK.out.alloc _).cell (i := 2) rfl⟩
          | go_keep)
        ((first
          | (go_at_call 88; (with_reducible refine HJ.out.mono ?_); rintro e w5 ⟨A5, c5, rfl, ho5, hb5⟩)))
      go_wp2
      go_ret2
      unfold BestR
      rw [← HBST.out]
      exact ⟨A5, c5, rfl, own_down ho5 (HB0.out.size), below2 HB0.out hb5 (Nat.le_refl _)⟩
/-- what Rows tells: the rows, in new memory. -/
def RowsR (s : List Trow) (w : World) (e : Ending) (w' : World) : Prop :=
  ∃ A c F', e = .returned (.slice A s.length c) ∧ Rws w' w.heap.size 96 (fun _ => False) A c s F' ∧ Foot F' w.heap.size w' ∧ Below w.heap.size w w'
theorem rws_take {w3 : World} {B3 e3 c3 : Nat} {G3 F3 : Nat → Prop} {V3 : Option Addr} {s3 t3 : List Trow} {r3 : Trow} (hts : t3 = s3 ++ [r3]) (h : Rws w3 B3 e3 G3 V3 c3 (s3 ++ [r3]) F3) : Rws w3 B3 e3 G3 V3 c3 t3 F3 := by rw [hts]; exact h
set_option maxRecDepth 100000 in
set_option maxHeartbeats 4000000 in
theorem ta_rows (h : Ta w B gt s F) (hT : tot s ≤ 1000000) : Calls Try.prog 54 #[.pointer (some ⟨gt, 0, none⟩)] w (RowsR s w) := by
  obtain ⟨i0, hi, hz0, hz1, hz2⟩ := info_parts Try.infR
  have HI := hide (ta_is h)
  obtain ⟨bm, V, cV, h⟩ := h
  have hlen : s.length ≤ 1000000 := Nat.le_trans h.ok.len hT
  obtain ⟨_, c1⟩ := h.cells
  have HH := hide h
  clear h
  go_enter Try.func54, Try.ntmps54
  go_wp2_with fail
  refine HI.out.mono ?_; rintro e w' ⟨rfl, rfl⟩
  go_wp2
  go_loopw [3, 14] (fun v i wr => ∃ k : Nat, k ≤ s.length ∧ i = .int .i64 k ∧ ∃ A cA, v = .slice A k cA ∧ Hid (∃ F', Rws wr w.heap.size 96 (fun _ => False) A cA (s.take k) F' ∧ Foot F' w.heap.size wr ∧ Below w.heap.size w wr)) (fun _ i _ => s.length - (intOf i).toNat)
  case atStart => exact ⟨0, Nat.zero_le _, rfl, none, 0, rfl, fun _ => False, Rws.nil _ _ _ _ _, (fun k h => h.elim), Below.refl _ _⟩
  case round =>
    obtain ⟨k, hk, rfl, A, cA, rfl, hrel⟩ := hrel
    obtain ⟨F1, hr1, hf1, hb1⟩ := hrel.out
    clear hrel c1
    by_cases hlt : k < s.length
    · obtain ⟨r, hr⟩ : ∃ r, s[k]? = some r := ⟨_, List.getElem?_eq_getElem hlt⟩
      obtain ⟨rl, rm, rc⟩ := r
      have hrm := (HH.out.ok _ (List.mem_of_getElem? hr)).2.2.1
      have HTK : Hid (s.take (k + 1) = s.take k ++ [(rl, rm, rc)]) := by show _ = _; rw [List.take_add_one, hr]; rfl
      have hsl : (s.take k).length = k := by simp; omega
      obtain ⟨b, D, cD, hVe, hbl2, _, p0, p1, p2, _, hrd, _⟩ := HH.out.rows.get hr
      have q0 := (hb1.cell (p := ⟨b, k * 3, none⟩) hbl2).trans p0
      have q1 := (hb1.cell (p := ⟨b, k * 3 + 1, none⟩) hbl2).trans p1
      have q2 := (hb1.cell (p := ⟨b, k * 3 + 2, none⟩) hbl2).trans p2
      dsimp only at q0 q1 q2 hrd hrm
      subst hVe
      obtain ⟨st, hst⟩ : ∃ st, st = s.take k := ⟨_, rfl⟩
      rw [← hst] at hr1 HTK hsl
      obtain ⟨w2, hw2⟩ : ∃ w2, w2 = wr.alloc (.cells #[.int .i64 rl, .slice D rm.length cD, .int .u64 (rc : Nat)] 96) := ⟨_, rfl⟩
      have hx2 : Blk w2 wr.heap.size 96 [.int .i64 rl, .slice D rm.length cD, .int .u64 (rc : Nat)] := by rw [hw2]; exact Blk.new wr _ _
      have hb12 : Below wr.heap.size wr w2 := by rw [hw2]; exact (Below.refl _ _).alloc (Nat.le_refl _) _
      have x1 := hx2.cell (i := 1) rfl
      have HJ := hide (join_one w2 D cD rm ((hrd.below (below2 hb1 hb12 (Nat.le_refl _)) (Nat.le_refl _)).more (below2 hb1 hb12 (Nat.le_refl _)).size) (by omega))
      have g0 : (0 : Int) ≤ (k : Int) := by omega
      have g1 : (k : Int) < (s.length : Int) := by omega
      have HX2 := hide hx2
      have HR1 := hide hr1
      have HF1 := hide hf1
      have HB1 := hide hb1
      have HB12 := hide hb12
      have HW2 := hide hw2
      have HSL := hide hsl
      clear hr1 hf1 hb1 hr hst hw2 hx2 hb12 hrd hbl2 p0 p1 p2 hsl
      go_upto_region 7 with (fail)
      rw [← HW2.out]
      clear q0 q1 q2
      go_wp2_with fail
      refine HJ.out.mono ?_; rintro e w3 ⟨A3, c3, rfl, ho3, hb3⟩
      have hb23 : Below w2.heap.size w2 w3 := below2 ((Below.refl w2.heap.size w2).alloc (Nat.le_refl _) _) hb3 (Nat.le_refl _)
      have hx3 := HX2.out.on hb23
      have x1 := hx3.cell (i := 1) rfl
      have f1 := hx3.free 1
      obtain ⟨w4, hw4⟩ : ∃ w4, w4 = w3.setCell ⟨wr.heap.size, 1, none⟩ (.slice A3 rm.length c3) := ⟨_, rfl⟩
      have hx4 : Blk w4 wr.heap.size 96 [.int .i64 rl, .slice A3 rm.length c3, .int .u64 (rc : Nat)] := by rw [hw4]; exact hx3.set 1 _
      have hb14 : Below wr.heap.size wr w4 := by
        rw [hw4]
        exact (below2 HB12.out hb23 (Nat.le_refl _)).setCell (p := ⟨wr.heap.size, 1, none⟩) (Nat.le_refl _) _
      have ho4 : w4.ownsRow wr.heap.size 5 1 (.slice A3 rm.length c3) rm.length (u8s rm) := by
        have h5 := own_down (base' := wr.heap.size) ho3 (by have := HB12.out.size; show _ ≤ (w2.alloc _).heap.size; simp; omega)
        refine own_keep h5 (fun k hk => ?_)
        rw [hw4]
        have := own_block_lt ho3 hk
        have h6 : w2.heap.size ≤ (w2.alloc (.cells #[.slice D rm.length cD] 34)).heap.size := by simp
        exact Below.heap_setCell w3 ⟨wr.heap.size, 1, none⟩ _ k (fun e => by have := HX2.out.lt; simp only at e; omega)
      obtain ⟨L, hL, ho, hV1, h4⟩ := HR1.out
      have HPU := hide (fun (w5 : World) (V' : Option Addr) (cV' : Nat) => Rws.push (w := wr) (w1 := w4) (w3 := w5) (V' := V') (cV' := cV') (r := (rl, rm, rc)) (v := .slice A3 rm.length c3) hL ho hV1 h4 HF1.out (fun k h => h.elim) hb14 ho4)
      rw [HSL.out] at HPU ho
      have hob := own_on ho hb14
      have z0 := hx4.cell (i := 0) rfl
      have z1 := hx4.cell (i := 1) rfl
      have z2 := hx4.cell (i := 2) rfl
      have gg1 : k + 1 ≤ 9223372036854775807 := by omega
      have gg2 : (k + 1) * 40 ≤ 140737488355328 := by omega
      have hB1 : w.heap.size ≤ w4.heap.size := Nat.le_trans HB1.out.size hb14.size
      have HB14 := hide hb14
      have HW4 := hide hw4
      clear hx3 hx4 hb14 ho4 ho hV1 h4 hL hw4 ho3 hb3 hb23 HJ HX2 HB12
      go_upto_region 8 with (fail)
      rw [← HW4.out]
      clear x1 f1
      go_wp2_with (at_builtin; refine wpList_app3 w4 rfl (.tmp 23) (.tmp 25) 93 rfl w.heap.size 96 i0 (.agg #[.int .i64 0, .slice none 0 0, .int .u64 0]) 40 Try.underlying93 hi hz0 hz1 hz2 (by rfl) (.slice A k cA) k (rwsC L) (by rfl) hob (.int .i64 rl) (.slice A3 rm.length c3) (.int .u64 (rc : Nat)) (by rfl) (by rfl) (by rfl) (by rfl) gg1 gg2 hB1 ?_; intro v' w5 hown1 hg1 hat1; obtain ⟨A', c', rfl, _⟩ := own_form hown1)
      obtain ⟨p1, p2⟩ := HPU.out w5 A' c' hown1 hg1 hat1
      have HP1 := hide p1
      have HP2 := hide p2
      clear p1 p2 hown1 hg1 hat1 hob HPU
      go_roundw
      case rel =>
        refine ⟨k + 1, by omega, by go_num, A', c', rfl, more F1 wr w5, rws_take HTK.out HP1.out, ?_, HP2.out.below HB1.out HF1.out HB1.out.size⟩
        rintro j (hj | hj)
        · exact ⟨(HF1.out j hj).1, Nat.lt_of_lt_of_le (HF1.out j hj).2 HP2.out.size⟩
        · exact ⟨Nat.le_trans HB1.out.size hj.1, hj.2⟩
      case measure => simp [intOf]; omega
    · obtain rfl : k = s.length := by omega
      rw [List.take_length] at hr1
      have HR1 := hide hr1
      have HF1 := hide hf1
      have HB1 := hide hb1
      clear hr1 hf1 hb1
      go_wp2
      go_ret
      exact ⟨A, cA, F1, rfl, HR1.out, HF1.out, HB1.out⟩
end
end Go.Proofs.Ytnbhgeodbpelgaa
