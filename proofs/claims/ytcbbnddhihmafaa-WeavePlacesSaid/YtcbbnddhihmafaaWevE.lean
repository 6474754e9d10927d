/- Do and Undo of layer 11 and of its reference, Place of both, by what they compute. No conditions. -/
import Derived.Test.YtcbbnddhihmafaaWevD
namespace Go.Proofs.Ytcbbnddhihmafaa
open Go.RowKit
set_option linter.unusedVariables false

theorem We.doBits_take (l : List Nat) (rows k : Nat) (hr : 0 < rows) (hk : k < 8 * l.length) : (We.doBits l rows).take (k + 1) = (We.doBits l rows).take k ++ [We.bitAt l ((We.ord (8 * l.length) rows).getD k 0)] := by
  have hl := We.doBits_length l rows hr
  have hg := We.doBits_getD l rows k hr hk
  rw [List.take_add_one, ← hg, getD_of (by omega)]; rfl

theorem rdo_no (A : Option Addr) (n c : Nat) (rows : Int) (h63 : n ≤ 140737488355328) (h : ¬ (8 * n ≤ 65536 ∧ 1 ≤ rows ∧ rows ≤ 64)) (w : World) :
    Calls Try.prog 44 #[.slice A n c, .int .i64 rows] w fun e w' => e = .returned (.slice none 0 0) ∧ w = w' := by
  have h1 : (n : Int) ≤ 140737488355328 := by omega
  go_enter Try.func44, Try.ntmps44
  go_wp2_with fail
  refine (rright_no _ _ (by omega) _).mono ?_; rintro e w' ⟨rfl, rfl⟩
  go_wp2
  go_ret
  exact ⟨rfl, rfl⟩
theorem rundo_no (A : Option Addr) (n c : Nat) (rows : Int) (h63 : n ≤ 140737488355328) (h : ¬ (8 * n ≤ 65536 ∧ 1 ≤ rows ∧ rows ≤ 64)) (w : World) :
    Calls Try.prog 46 #[.slice A n c, .int .i64 rows] w fun e w' => e = .returned (.slice none 0 0) ∧ w = w' := by
  have h1 : (n : Int) ≤ 140737488355328 := by omega
  go_enter Try.func46, Try.ntmps46
  go_wp2_with fail
  refine (rright_no _ _ (by omega) _).mono ?_; rintro e w' ⟨rfl, rfl⟩
  go_wp2
  go_ret
  exact ⟨rfl, rfl⟩

set_option maxHeartbeats 800000 in
/-- the reference's Do -/
theorem rdo11 (A : Option Addr) (c : Nat) (l : List Nat) (rows : Nat) (hl : 8 * l.length ≤ 65536) (hr : 0 < rows) (hr2 : rows ≤ 64) (hB : Byt l) (w : World) (hA : Rd w.heap.size w A (u8s l)) :
    Calls Try.prog 44 #[.slice A l.length c, .int .i64 (rows : Int)] w fun e w' =>
    ∃ v, e = .returned v ∧ w'.ownsRow w.heap.size 5 1 v l.length (u8s (We.doT l rows)) ∧ Below w.heap.size w w' := by
  obtain ⟨i0, hi, hz0, hz1, hz2⟩ := info_parts Try.infI
  obtain ⟨O, hO⟩ : ∃ O, O = We.ord (8 * l.length) rows := ⟨_, rfl⟩
  have hOl : O.length = 8 * l.length := by rw [hO]; exact We.length_ord _ _ hr
  have HOa : Hid (O.length ≤ 8 * l.length) := Nat.le_of_eq hOl
  have HOb : Hid (8 * l.length ≤ O.length) := Nat.le_of_eq hOl.symm
  have HOlt : Hid (∀ k, k < 8 * l.length → O.getD k 0 < 8 * l.length) := by rw [hO]; exact We.ord_lt _ _ hr
  have HTK : Hid (∀ k, k < 8 * l.length → (We.doBits l rows).take (k + 1) = (We.doBits l rows).take k ++ [We.bitAt l (O.getD k 0)]) := by
    intro k hk; rw [hO]; exact We.doBits_take l rows k hr hk
  have HBI := hide (rbits_any A c l (by omega) hB w hA)
  have hord := fun W => rorder_any (8 * l.length) rows hl hr hr2 W
  rw [← hO] at hord
  have HORD := hide hord
  have HDL := hide (We.doBits_length l rows hr)
  clear hO hOl hord hA
  have hl1 : 8 * (l.length : Int) ≤ 65536 := by omega
  have hr1 : (1 : Int) ≤ (rows : Int) := by omega
  have hr3 : (rows : Int) ≤ 64 := by omega
  go_enter Try.func44, Try.ntmps44
  go_wp2_with fail
  refine (rright_yes _ _ (by omega) (by omega) hr1 hr3 _).mono ?_; rintro e w' ⟨rfl, rfl⟩
  go_wp2_with fail
  refine HBI.out.mono ?_; rintro e w1 ⟨v1, rfl, hx1, hb1⟩
  obtain ⟨A1, c1, rfl, hc1⟩ := own_val hx1
  have HX1 := hide (own_rd hx1)
  clear hx1
  go_wp2_with fail
  have hcast : (8 : Int) * (l.length : Int) = ((8 * l.length : Nat) : Int) := by omega
  rw [hcast]
  refine (HORD.out w1).mono ?_
  rintro e w2 ⟨v2, rfl, ho2, hb2⟩
  obtain ⟨A2, c2, rfl, hc2⟩ := own_val ho2
  have HO2 := hide (own_rd ho2)
  have HX2 := hide (HX1.out.on hb2)
  have HB2 := hide (below2 hb1 hb2 (Nat.le_refl _))
  clear ho2 hb1 hb2 hcast HX1
  go_wp2_with fail
  go_loopw [7, 8] (fun v i wr => ∃ k : Nat, k ≤ O.length ∧ i = .int .i64 k ∧ wr.ownsRow w2.heap.size 3 1 v k (n64s ((We.doBits l rows).take k)) ∧ Below w2.heap.size w2 wr) (fun _ i _ => O.length - (intOf i).toNat)
  case atStart => exact ⟨0, Nat.zero_le _, rfl, World.ownsRow_nil _ _ _ _, Below.refl _ _⟩
  case round =>
    obtain ⟨k, hk, rfl, hownr, hb⟩ := hrel
    have ho1 := HOa.out
    by_cases hlt : k < O.length
    · obtain ⟨p, hp⟩ : ∃ p, p = O.getD k 0 := ⟨_, rfl⟩
      have hplt : p < 8 * l.length := by rw [hp]; exact HOlt.out k (by omega)
      obtain ⟨b2, o2, rfl, hbb2, hc3⟩ := (HO2.out.below hb (Nat.le_refl _)).at_ (n64s_get (getD_of hlt))
      rw [← hp] at hc3
      obtain ⟨b1, o1, rfl, hbb1, hc4⟩ := (HX2.out.below hb (Nat.le_refl _)).at_ (n64s_get (We.bitsTo_get l hplt))
      have HTK1 := hide (HTK.out k (by omega))
      rw [← hp] at HTK1
      clear hp
      have g3 : (p : Int) < 8 * (l.length : Int) := by omega
      have hB := hb.size
      have g1 : k + 1 ≤ 9223372036854775807 := by omega
      have g2 : (k + 1) * 8 ≤ 140737488355328 := by omega
      go_wp2_with (at_builtin; refine wpList_app1 _ rfl (.tmp 28) (.tmp 36) 40 rfl w2.heap.size 3 i0 (.int .i64 0) 8 Try.underlying40 hi hz0 hz1 hz2 rfl _ k _ rfl hownr _ rfl (by rfl) g1 g2 hB ?_; intro v' w3 hown1 hg1 hat1)
      go_roundw
      case rel =>
        refine ⟨k + 1, by omega, by go_num, ?_, below_app hb hownr hg1 hB⟩
        rw [HTK1.out, n64s_app]
        exact hown1
      case measure => simp [intOf]; omega
    · have hkO : k = 8 * l.length := by have := HOb.out; omega
      obtain ⟨A3, c3, rfl, hc3⟩ := own_val hownr
      have ht : (We.doBits l rows).take k = We.doBits l rows := by rw [hkO, ← HDL.out]; exact List.take_length
      rw [ht] at hownr
      have HR := hide (own_rd hownr)
      have HK := hide hkO
      have hB3 := below2 HB2.out hb (Nat.le_refl _)
      clear hkO ht hownr hb
      have hge : O.length ≤ k := by omega
      clear hlt
      go_wp2_with fail
      refine (rtext_any A3 k c3 l.length (We.doBits l rows) (by rw [HDL.out]; exact HK.out) HDL.out (by omega) (We.doBits_bit _ _) _ HR.out).mono ?_
      rintro e w4 ⟨v4, rfl, ho4, hb4⟩
      go_wp2
      go_ret
      exact ⟨v4, rfl, own_more ho4 hB3.size, below2 hB3 hb4 (Nat.le_refl _)⟩

set_option maxHeartbeats 800000 in
/-- the reference's Undo -/
theorem rundo11 (A : Option Addr) (c : Nat) (l : List Nat) (rows : Nat) (hl : 8 * l.length ≤ 65536) (hr : 0 < rows) (hr2 : rows ≤ 64) (hB : Byt l) (w : World) (hA : Rd w.heap.size w A (u8s l)) :
    Calls Try.prog 46 #[.slice A l.length c, .int .i64 (rows : Int)] w fun e w' =>
    ∃ v, e = .returned v ∧ w'.ownsRow w.heap.size 5 1 v l.length (u8s (We.undoT l rows)) ∧ Below w.heap.size w w' := by
  obtain ⟨i0, hi, hz0, hz1, hz2⟩ := info_parts Try.infI
  obtain ⟨O, hO⟩ : ∃ O, O = We.ord (8 * l.length) rows := ⟨_, rfl⟩
  obtain ⟨F, hF⟩ : ∃ F, F = List.range (8 * l.length) := ⟨_, rfl⟩
  have hOl : O.length = 8 * l.length := by rw [hO]; exact We.length_ord _ _ hr
  have HOa : Hid (O.length ≤ 8 * l.length) := Nat.le_of_eq hOl
  have HOb : Hid (8 * l.length ≤ O.length) := Nat.le_of_eq hOl.symm
  have HOlt : Hid (∀ k, k < 8 * l.length → O.getD k 0 < 8 * l.length) := by rw [hO]; exact We.ord_lt _ _ hr
  have HST : Hid (∀ k, k < 8 * l.length → (We.layTo l F O k).set (O.getD k 0) (We.bitAt l k) = We.layTo l F O (k + 1)) := by
    intro k hk; simp only [We.layTo]; rw [hF, We.range_getD _ _ hk]
  have HUN : Hid (We.undoBits l rows = We.layTo l F O (8 * l.length)) := by show _ = _; rw [hF, hO]; rfl
  have HBI := hide (rbits_any A c l (by omega) hB w hA)
  have hord := fun W => rorder_any (8 * l.length) rows hl hr hr2 W
  rw [← hO] at hord
  have HORD := hide hord
  have HDL := hide (We.undoBits_length l rows hr)
  clear hO hF hord hA
  have HLL : Hid (∀ k, (We.layTo l F O k).length = 8 * l.length) := fun k => by rw [We.layTo_length]; exact hOl
  clear hOl
  have hl1 : 8 * (l.length : Int) ≤ 65536 := by omega
  have hr1 : (1 : Int) ≤ (rows : Int) := by omega
  have hr3 : (rows : Int) ≤ 64 := by omega
  have hbb1 : i0.bytes * (8 * l.length) ≤ 281474976710656 := by rw [hz2]; omega
  have hbb2 : 8 * l.length ≤ maxLen := by unfold maxLen; omega
  go_enter Try.func46, Try.ntmps46
  go_wp2_with fail
  refine (rright_yes _ _ (by omega) (by omega) hr1 hr3 _).mono ?_; rintro e w' ⟨rfl, rfl⟩
  go_wp2_with fail
  refine HBI.out.mono ?_; rintro e w1 ⟨v1, rfl, hx1, hb1⟩
  obtain ⟨A1, c1, rfl, hc1⟩ := own_val hx1
  have HX1 := hide (own_rd hx1)
  clear hx1
  go_wp2_with fail
  have hcast : (8 : Int) * (l.length : Int) = ((8 * l.length : Nat) : Int) := by omega
  rw [hcast]
  refine (HORD.out w1).mono ?_
  rintro e w2 ⟨v2, rfl, ho2, hb2⟩
  obtain ⟨A2, c2, rfl, hc2⟩ := own_val ho2
  have HO2 := hide (own_rd ho2)
  have HX2 := hide (HX1.out.on hb2)
  have HB2 := hide (below2 hb1 hb2 (Nat.le_refl _))
  clear ho2 hb1 hb2 hcast HX1
  go_wp2_with (at_make; refine wpList_make_full _ rfl _ _ _ rfl w2.heap.size 3 i0 (.int .i64 0) 1 Try.underlying40 hi hz0 hz1 .i64 .i64 _ _ (8 * l.length) rfl rfl (by omega) (by omega) hbb1 hbb2 (Nat.le_refl _) ?_; intro w3 hown hgrow)
  have hown0 : w3.ownsRow w2.heap.size 3 1 (.slice (some ⟨w2.heap.size, 0, none⟩) (8 * l.length) (8 * l.length)) (8 * l.length) (n64s (We.layTo l F O 0)) := by
    rw [made_n64] at hown
    have h0 : We.layTo l F O 0 = List.replicate (8 * l.length) 0 := by simp only [We.layTo]; have := HLL.out 0; simp only [We.layTo, List.length_replicate] at this; rw [this]
    rw [h0]; exact hown
  have hbel : Below w2.heap.size w2 w3 := (Below.refl _ _).grown hgrow (Nat.le_refl _) (by intro k h; cases h)
  have HB3 := hide (below2 HB2.out hbel (Nat.le_refl _))
  have HO3 := hide (HO2.out.below hbel (Nat.le_refl _))
  have HX3 := hide (HX2.out.below hbel (Nat.le_refl _))
  have HS2 := hide HB2.out.size
  clear hown hgrow hbb1 HB2 hbel HO2 HX2
  go_wp2_with fail
  go_loopw [8] (fun i wr => ∃ k : Nat, k ≤ O.length ∧ i = .int .i64 k ∧ wr.ownsRow w2.heap.size 3 1 (.slice (some ⟨w2.heap.size, 0, none⟩) (8 * l.length) (8 * l.length)) (8 * l.length) (n64s (We.layTo l F O k)) ∧ Below w2.heap.size w3 wr) (fun i _ => O.length - (intOf i).toNat)
  case atStart => exact ⟨0, Nat.zero_le _, rfl, hown0, Below.refl _ _⟩
  case round =>
    obtain ⟨k, hk, rfl, hownr, hb⟩ := hrel
    clear hown0
    have ho1 := HOa.out
    by_cases hlt : k < O.length
    · obtain ⟨p, hp⟩ : ∃ p, p = O.getD k 0 := ⟨_, rfl⟩
      have hplt : p < 8 * l.length := by rw [hp]; exact HOlt.out k (by omega)
      obtain ⟨b2, o2, rfl, hbb2, hc3⟩ := (HO3.out.below hb (Nat.le_refl _)).at_ (n64s_get (getD_of hlt))
      rw [← hp] at hc3
      obtain ⟨b1, o1, rfl, hbb1, hc4⟩ := (HX3.out.below hb (Nat.le_refl _)).at_ (n64s_get (We.bitsTo_get l (show k < 8 * l.length by omega)))
      have hyc := own_cell hownr (n64s_get (getD_of (show p < (We.layTo l F O k).length by rw [HLL.out k]; exact hplt)))
      have hyf := hownr.frozenAt p
      have HOR := hide hownr
      have HST1 := hide (HST.out k (by omega))
      rw [← hp] at HST1
      clear hp hownr
      have g3 : (p : Int) < 8 * (l.length : Int) := by omega
      have g4 : (k : Int) < 8 * (l.length : Int) := by omega
      have HBE := hide hb
      clear hb
      go_wp2
      go_region
      go_wp2
      go_roundw
      case rel =>
        refine ⟨k + 1, by omega, by go_num, ?_, (HBE.out.setCell (Nat.le_refl _) _).drew⟩
        have := own_store HOR.out p (.int .i64 ((We.bitAt l k : Nat) : Int))
        rw [n64s_set, HST1.out] at this
        exact this
      case measure => simp [intOf]; omega
    · have hkO : k = 8 * l.length := by have := HOb.out; omega
      have hu : We.layTo l F O k = We.undoBits l rows := by rw [hkO]; exact HUN.out.symm
      rw [hu] at hownr
      have HR := hide (own_rd hownr)
      have hB3 : Below w.heap.size w wr := HB3.out.trans (hb.mono HS2.out)
      clear hkO hu hownr hb
      have hge : O.length ≤ k := by omega
      clear hlt
      go_wp2_with fail
      refine (rtext_any _ (8 * l.length) _ l.length (We.undoBits l rows) HDL.out.symm HDL.out (by omega) (by rw [HUN.out]; exact We.layTo_bit _ _ _ _) _ HR.out).mono ?_
      rintro e w4 ⟨v4, rfl, ho4, hb4⟩
      go_wp2
      go_ret
      exact ⟨v4, rfl, own_more ho4 hB3.size, below2 hB3 hb4 (Nat.le_refl _)⟩
end Go.Proofs.Ytcbbnddhihmafaa
