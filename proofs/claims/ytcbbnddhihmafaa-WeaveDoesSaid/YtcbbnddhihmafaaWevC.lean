/- The functions of layer 11: bit, laid, by what they compute. No conditions. -/
import Derived.Test.YtcbbnddhihmafaaWevB
import Derived.Test.YtcbbnddhihmafaaSame
import Derived.StillTailTactics
namespace Go.Proofs.Ytcbbnddhihmafaa
open Go.RowKit
set_option linter.unusedVariables false

theorem and_bit (x j : Nat) (hx : x < 256) : bits .and .u8 ((x : Int) / 2 ^ j) 1 = ((x / 2 ^ j % 2 : Nat) : Int) := by
  have e : (x : Int) / 2 ^ j = ((x / 2 ^ j : Nat) : Int) := by rw [Int.natCast_ediv]; congr 1
  have h : x / 2 ^ j < 256 := Nat.lt_of_le_of_lt (Nat.div_le_self _ _) hx
  rw [e]
  have := u8_and_nat (x / 2 ^ j) 1 h (by omega)
  rw [show ((1 : Nat) : Int) = 1 from rfl] at this
  rw [this, nat_mask1]
theorem bit_at (b1 o1 n c k x : Nat) (hx : x < 256) (hk : k / 8 < n) (hk2 : k ≤ 65536) (w : World) (hc : w.cell? ⟨b1, o1 + k / 8, none⟩ = some (.int .u8 (x : Int))) :
    Calls Try.prog 74 #[.slice (some ⟨b1, o1, none⟩) n c, .int .i64 (k : Int)] w fun e w' => e = .returned (.int .u8 ((x / 2 ^ (7 - k % 8) % 2 : Nat) : Int)) ∧ w = w' := by
  have g1 : (k : Int) / 8 < (n : Int) := by omega
  have g2 : (0 : Int) ≤ (k : Int) / 8 := by omega
  have g3 : (k : Int) % 8 < 8 := by omega
  have g4 : (0 : Int) ≤ (k : Int) % 8 := by omega
  have HA := hide (and_bit x (7 - k % 8) hx)
  go_enter Try.func74, Try.ntmps74
  go_wp2
  go_ret
  exact ⟨by rw [← HA.out]; rfl, rfl⟩

theorem bit_still (b1 o1 n c k x : Nat) (hx : x < 256) (hk : k / 8 < n) (hk2 : k ≤ 65536) (w : World) (hc : w.cell? ⟨b1, o1 + k / 8, none⟩ = some (.int .u8 (x : Int))) :
    Calls Try.prog 74 #[.slice (some ⟨b1, o1, none⟩) n c, .int .i64 (k : Int)] w fun e w' => e = .returned (.int .u8 ((x / 2 ^ (7 - k % 8) % 2 : Nat) : Int)) ∧ w' = w :=
  (bit_at b1 o1 n c k x hx hk hk2 w hc).mono fun _ _ ⟨he, hw⟩ => ⟨he, hw.symm⟩
theorem or_shift (a x j i : Nat) (ha : a < 256) (hi : i ≤ 7) : bits .or .u8 (a : Int) (IntKind.u8.wrap ((x : Int) / 2 ^ j % 2 * 2 ^ i)) = ((a ||| x / 2 ^ j % 2 * 2 ^ i : Nat) : Int) := by
  have e1 : (x : Int) / 2 ^ j % 2 * 2 ^ i = ((x / 2 ^ j % 2 * 2 ^ i : Nat) : Int) := by simp
  have h2 : x / 2 ^ j % 2 < 2 := Nat.mod_lt _ (by omega)
  have h3 : 2 ^ i ≤ 2 ^ 7 := Nat.pow_le_pow_right (by omega) hi
  have h4 : x / 2 ^ j % 2 * 2 ^ i ≤ 1 * 2 ^ 7 := Nat.mul_le_mul (by omega) h3
  rw [e1, IntKind.wrap_u8, show ((x / 2 ^ j % 2 * 2 ^ i : Nat) : Int) % 256 = ((x / 2 ^ j % 2 * 2 ^ i : Nat) : Int) by omega]
  exact u8_or_nat _ _ ha (by omega)
theorem lay_next (l F T : List Nat) (m k f t x : Nat) (hT : T.length = 8 * m) (hn : T.Nodup) (hk : k < 8 * m) (hf : F.getD k 0 = f) (ht : T.getD k 0 = t) (htl : t < 8 * m) (hx : l[f / 8]? = some x) :
    (We.pack m (We.layTo l F T k)).set (t / 8) (We.val8 (We.layTo l F T k) (8 * (t / 8)) ||| x / 2 ^ (7 - f % 8) % 2 * 2 ^ (7 - t % 8)) = We.pack m (We.layTo l F T (k + 1)) := by
  have hb : We.bitAt l f = x / 2 ^ (7 - f % 8) % 2 := by unfold We.bitAt; rw [List.getD_eq_getElem?_getD, hx, Option.getD_some]
  simp only [We.layTo]
  rw [hf, ht, We.pack_set (We.layTo_bit l F T k) m t (We.bitAt l f) (by rw [We.layTo_length, hT]) (by rw [We.layTo_length, hT]; exact htl) (by rw [← ht]; exact We.layTo_zero_next l F T hn k (by omega)) (We.bitAt_le _ _), hb]
theorem made8 (m : Nat) (y : List Nat) (hy : ∀ i, y.getD i 0 = 0) : We.pack m y = List.replicate m 0 := by
  apply List.ext_getElem?
  intro t
  by_cases ht : t < m
  · simp only [We.pack, List.getElem?_map, List.getElem?_range ht, List.getElem?_replicate, if_pos ht, Option.map_some, We.val8, hy]
  · rw [List.getElem?_eq_none (by simp [We.pack]; omega), List.getElem?_eq_none (by simp; omega)]
theorem pack_get (m : Nat) (y : List Nat) {t : Nat} (ht : t < m) : (We.pack m y)[t]? = some (We.val8 y (8 * t)) := by
  simp [We.pack, List.getElem?_map, List.getElem?_range ht]

theorem laid_no (A : Option Addr) (n c : Nat) (rows : Int) (back : Bool) (h63 : n ≤ 140737488355328) (h : ¬ (8 * n ≤ 65536 ∧ 1 ≤ rows ∧ rows ≤ 64)) (w : World) :
    Calls Try.prog 68 #[.slice A n c, .int .i64 rows, .bool back] w fun e w' => e = .returned (.slice none 0 0) ∧ w = w' := by
  have h1 : (n : Int) ≤ 140737488355328 := by omega
  go_enter Try.func68, Try.ntmps68
  go_wp2_with fail
  refine (right_no _ _ (by omega) _).mono ?_; rintro e w' ⟨rfl, rfl⟩
  go_wp2
  go_ret
  exact ⟨rfl, rfl⟩

set_option maxHeartbeats 800000 in
theorem laid_do (A : Option Addr) (c : Nat) (l : List Nat) (rows : Nat) (hl : 8 * l.length ≤ 65536) (hr : 0 < rows) (hr2 : rows ≤ 64) (hB : Byt l) (w : World) (hA : Rd w.heap.size w A (u8s l)) :
    Calls Try.prog 68 #[.slice A l.length c, .int .i64 (rows : Int), .bool false] w fun e w' =>
    ∃ g, e = .returned (.slice (some ⟨g, 0, none⟩) l.length l.length) ∧ w'.ownsRow w.heap.size 5 1 (.slice (some ⟨g, 0, none⟩) l.length l.length) l.length (u8s (We.pack l.length (We.layTo l (We.ord (8 * l.length) rows) (List.range (8 * l.length)) (8 * l.length)))) ∧ Below w.heap.size w w' := by
  obtain ⟨i0, hi, hz0, hz1, hz2⟩ := info_parts Try.inf8
  obtain ⟨F, hF⟩ : ∃ F, F = (We.ord (8 * l.length) rows) := ⟨_, rfl⟩
  obtain ⟨T, hT⟩ : ∃ T, T = (List.range (8 * l.length)) := ⟨_, rfl⟩
  obtain ⟨O, hO⟩ : ∃ O, O = We.ord (8 * l.length) rows := ⟨_, rfl⟩
  have hOl : O.length = 8 * l.length := by rw [hO]; exact We.length_ord _ _ hr
  have hTl : T.length = 8 * l.length := by rw [hT]; first | exact We.length_ord _ _ hr | exact List.length_range
  have hTn : T.Nodup := by rw [hT]; first | exact We.nodup_ord _ _ | exact List.nodup_range
  have hOlt : ∀ k, k < 8 * l.length → O.getD k 0 < 8 * l.length := by rw [hO]; exact We.ord_lt _ _ hr
  have hval : ∀ k, k < 8 * l.length → F.getD k 0 = O.getD k 0 ∧ T.getD k 0 = k := by
    intro k hk
    rw [hF, hT, hO]
    exact ⟨by first | rfl | exact We.range_getD _ _ hk, by first | rfl | exact We.range_getD _ _ hk⟩
  rw [← hF, ← hT]
  have hord := order_any (8 * l.length) rows hl hr hr2
  rw [← hO] at hord
  have HORD := hide hord
  have HOl := hide hOl
  have HTl := hide hTl
  have HTn := hide hTn
  have HOlt := hide hOlt
  have HV := hide hval
  have HA := hide hA
  have HB := hide hB
  clear hF hT hO hOl hTl hTn hOlt hval hord hA hB
  have hl1 : 8 * (l.length : Int) ≤ 65536 := by omega
  have hb1 : i0.bytes * l.length ≤ 281474976710656 := by rw [hz2]; omega
  have hb2 : l.length ≤ maxLen := by unfold maxLen; omega
  have hr1 : (1 : Int) ≤ (rows : Int) := by omega
  have hr3 : (rows : Int) ≤ 64 := by omega
  go_enter Try.func68, Try.ntmps68
  go_wp2_with fail
  refine (right_yes _ _ (by omega) (by omega) hr1 hr3 _).mono ?_; rintro e w' ⟨rfl, rfl⟩
  go_wp2_with (at_make; refine wpList_make_full _ rfl _ _ _ rfl w.heap.size 5 i0 (.int .u8 0) 1 Try.underlying28 hi hz0 hz1 .i64 .i64 _ _ l.length rfl rfl rfl rfl hb1 hb2 (Nat.le_refl _) ?_; intro w1 hown hgrow)
  have hown0 : w1.ownsRow w.heap.size 5 1 (.slice (some ⟨w.heap.size, 0, none⟩) l.length l.length) l.length (u8s (We.pack l.length (We.layTo l F T 0))) := by
    rw [made_u8] at hown
    rw [made8 _ _ (fun i => We.layTo_out l F T i 0 (fun j hj => absurd hj (by omega)))]
    exact hown
  have hbel : Below w.heap.size w w1 := (Below.refl _ _).grown hgrow (Nat.le_refl _) (by intro k h; cases h)
  have hg1 := own_lt hown0
  clear hown hgrow hb1
  have hcast : (8 : Int) * (l.length : Int) = ((8 * l.length : Nat) : Int) := by omega
  rw [hcast]
  refine (HORD.out w1).mono ?_
  rintro e w2 ⟨v2, rfl, hown2, hb2'⟩
  obtain ⟨A2, c2, rfl, hc2⟩ := own_val hown2
  have hown3 := own_on hown0 hb2'
  have HB2 := hide (below2 hbel hb2' (Nat.le_refl _))
  have HO2 := hide hown2
  have HS := hide hb2'.size
  clear hown0 hbel hb2' hown2 hcast
  have hOa : O.length ≤ 8 * l.length := Nat.le_of_eq HOl.out
  have hOb : 8 * l.length ≤ O.length := Nat.le_of_eq HOl.out.symm
  go_wp2_with fail
  go_loopw [27] (fun i wr => ∃ k : Nat, k ≤ O.length ∧ i = .int .i64 k ∧ wr.ownsRow w.heap.size 5 1 (.slice (some ⟨w.heap.size, 0, none⟩) l.length l.length) l.length (u8s (We.pack l.length (We.layTo l F T k))) ∧
    w2.grownBy wr (some w.heap.size)) (fun i _ => O.length - (intOf i).toNat)
  case atStart => exact ⟨0, Nat.zero_le _, rfl, hown3, World.grownBy.refl _ _⟩
  case round =>
    obtain ⟨k, hk, rfl, hownr, hgr⟩ := hrel
    clear hown3
    by_cases hlt : k < O.length
    · obtain ⟨g2, hA2, hg2, hg2lt⟩ := own_where HO2.out (by omega)
      subst hA2
      obtain ⟨p, hp⟩ : ∃ p, p = O.getD k 0 := ⟨_, rfl⟩
      have hplt : p < 8 * l.length := by rw [hp]; exact HOlt.out k (by omega)
      have hoc := hgr.cell (own_cell HO2.out (n64s_get (getD_of hlt))) (by simp; omega)
      rw [← hp] at hoc
      obtain ⟨x, hx⟩ : ∃ x, l[p / 8]? = some x := ⟨_, List.getElem?_eq_getElem (by omega)⟩
      have hx8 := HB.out.at_ hx
      obtain ⟨b1, o1, rfl, hbb, hc1⟩ := (HA.out.below HB2.out (Nat.le_refl _)).at_ (u8s_get hx)
      have hc1 := hgr.cell hc1 (by simp; omega)
      have hyc := own_cell hownr (u8s_get (pack_get l.length (We.layTo l F T k) (show k / 8 < l.length by omega)))
      have hyf := hownr.frozenAt (k / 8)
      have HOR := hide hownr
      have HX := hide hx
      have HP := hide hp
      have g1 : (k : Int) < 8 * (l.length : Int) := by omega
      have g2 : (p : Int) < 8 * (l.length : Int) := by omega
      have HG := hide hgr
      clear hownr hx hp hgr
      go_wp2
      have q1 : (k : Int).tdiv 8 = (k : Int) / 8 := Int.tdiv_eq_ediv_of_nonneg (by omega)
      have q2 : (0 : Int) ≤ (k : Int) / 8 := by omega
      have q3 : (k : Int) / 8 < (l.length : Int) := by omega
      have q4 : ((k : Int) / 8).toNat = k / 8 := by omega
      have q5 : (k : Int).tmod 8 = (k : Int) % 8 := Int.tmod_eq_emod_of_nonneg (by omega)
      have q6 : (0 : Int) ≤ 7 - (k : Int) % 8 := by omega
      have q7 : (k : Int) % 8 < 8 := by omega
      have q8 : IntKind.i64.wrap ((k : Int) / 8) = (k : Int) / 8 := IntWalk.i64_in _ ⟨by omega, by omega⟩
      have q9 : IntKind.i64.wrap ((k : Int) % 8) = (k : Int) % 8 := IntWalk.i64_in _ ⟨by omega, by omega⟩
      have q10 : IntKind.i64.wrap (7 - (k : Int) % 8) = 7 - (k : Int) % 8 := IntWalk.i64_in _ ⟨by omega, by omega⟩
      have q11 : (7 - (k : Int) % 8).toNat = 7 - k % 8 := by omega
      refine wp_region_still_tail 14 (by kernel_rfl) (by kernel_rfl) ?_
      simp only [List.take_succ_cons, List.take_zero, List.drop_succ_cons, List.drop_zero]
      repeat still_step
      still_call (bit_still b1 o1 l.length c p x hx8 (by omega) (by omega) wr.drew hc1)
      repeat still_step
      refine wpStill_nil ?_
      clear q1 q2 q3 q4 q5 q6 q7 q8 q9 q10 q11
      go_wp2
      go_roundw
      case rel =>
        refine ⟨k + 1, by omega, by go_num, ?_, grown_drew (grown_set HG.out _ _)⟩
        have hv := HV.out k (by omega)
        rw [← HP.out] at hv
        have hnext := lay_next l F T l.length k p k x HTl.out HTn.out (by omega) hv.1 hv.2 (by omega) HX.out
        have := own_store HOR.out (k / 8) (.int .u8 ((We.val8 (We.layTo l F T k) (8 * (k / 8)) ||| x / 2 ^ (7 - p % 8) % 2 * 2 ^ (7 - k % 8) : Nat) : Int))
        rw [u8s_set, hnext, ← or_shift _ x (7 - p % 8) (7 - k % 8) (We.val8_lt (We.layTo_bit l F T k) _) (by omega)] at this
        exact this
      case measure => simp [intOf]; omega
    · obtain rfl : k = O.length := by omega
      go_wp2
      go_ret
      rw [HOl.out] at hownr
      exact ⟨_, rfl, hownr, grown_below hgr HB2.out (Nat.le_refl _) HB2.out.size⟩

set_option maxHeartbeats 800000 in
theorem laid_undo (A : Option Addr) (c : Nat) (l : List Nat) (rows : Nat) (hl : 8 * l.length ≤ 65536) (hr : 0 < rows) (hr2 : rows ≤ 64) (hB : Byt l) (w : World) (hA : Rd w.heap.size w A (u8s l)) :
    Calls Try.prog 68 #[.slice A l.length c, .int .i64 (rows : Int), .bool true] w fun e w' =>
    ∃ g, e = .returned (.slice (some ⟨g, 0, none⟩) l.length l.length) ∧ w'.ownsRow w.heap.size 5 1 (.slice (some ⟨g, 0, none⟩) l.length l.length) l.length (u8s (We.pack l.length (We.layTo l (List.range (8 * l.length)) (We.ord (8 * l.length) rows) (8 * l.length)))) ∧ Below w.heap.size w w' := by
  obtain ⟨i0, hi, hz0, hz1, hz2⟩ := info_parts Try.inf8
  obtain ⟨F, hF⟩ : ∃ F, F = (List.range (8 * l.length)) := ⟨_, rfl⟩
  obtain ⟨T, hT⟩ : ∃ T, T = (We.ord (8 * l.length) rows) := ⟨_, rfl⟩
  obtain ⟨O, hO⟩ : ∃ O, O = We.ord (8 * l.length) rows := ⟨_, rfl⟩
  have hOl : O.length = 8 * l.length := by rw [hO]; exact We.length_ord _ _ hr
  have hTl : T.length = 8 * l.length := by rw [hT]; first | exact We.length_ord _ _ hr | exact List.length_range
  have hTn : T.Nodup := by rw [hT]; first | exact We.nodup_ord _ _ | exact List.nodup_range
  have hOlt : ∀ k, k < 8 * l.length → O.getD k 0 < 8 * l.length := by rw [hO]; exact We.ord_lt _ _ hr
  have hval : ∀ k, k < 8 * l.length → F.getD k 0 = k ∧ T.getD k 0 = O.getD k 0 := by
    intro k hk
    rw [hF, hT, hO]
    exact ⟨by first | rfl | exact We.range_getD _ _ hk, by first | rfl | exact We.range_getD _ _ hk⟩
  rw [← hF, ← hT]
  have hord := order_any (8 * l.length) rows hl hr hr2
  rw [← hO] at hord
  have HORD := hide hord
  have HOl := hide hOl
  have HTl := hide hTl
  have HTn := hide hTn
  have HOlt := hide hOlt
  have HV := hide hval
  have HA := hide hA
  have HB := hide hB
  clear hF hT hO hOl hTl hTn hOlt hval hord hA hB
  have hl1 : 8 * (l.length : Int) ≤ 65536 := by omega
  have hb1 : i0.bytes * l.length ≤ 281474976710656 := by rw [hz2]; omega
  have hb2 : l.length ≤ maxLen := by unfold maxLen; omega
  have hr1 : (1 : Int) ≤ (rows : Int) := by omega
  have hr3 : (rows : Int) ≤ 64 := by omega
  go_enter Try.func68, Try.ntmps68
  go_wp2_with fail
  refine (right_yes _ _ (by omega) (by omega) hr1 hr3 _).mono ?_; rintro e w' ⟨rfl, rfl⟩
  go_wp2_with (at_make; refine wpList_make_full _ rfl _ _ _ rfl w.heap.size 5 i0 (.int .u8 0) 1 Try.underlying28 hi hz0 hz1 .i64 .i64 _ _ l.length rfl rfl rfl rfl hb1 hb2 (Nat.le_refl _) ?_; intro w1 hown hgrow)
  have hown0 : w1.ownsRow w.heap.size 5 1 (.slice (some ⟨w.heap.size, 0, none⟩) l.length l.length) l.length (u8s (We.pack l.length (We.layTo l F T 0))) := by
    rw [made_u8] at hown
    rw [made8 _ _ (fun i => We.layTo_out l F T i 0 (fun j hj => absurd hj (by omega)))]
    exact hown
  have hbel : Below w.heap.size w w1 := (Below.refl _ _).grown hgrow (Nat.le_refl _) (by intro k h; cases h)
  have hg1 := own_lt hown0
  clear hown hgrow hb1
  have hcast : (8 : Int) * (l.length : Int) = ((8 * l.length : Nat) : Int) := by omega
  rw [hcast]
  refine (HORD.out w1).mono ?_
  rintro e w2 ⟨v2, rfl, hown2, hb2'⟩
  obtain ⟨A2, c2, rfl, hc2⟩ := own_val hown2
  have hown3 := own_on hown0 hb2'
  have HB2 := hide (below2 hbel hb2' (Nat.le_refl _))
  have HO2 := hide hown2
  have HS := hide hb2'.size
  clear hown0 hbel hb2' hown2 hcast
  have hOa : O.length ≤ 8 * l.length := Nat.le_of_eq HOl.out
  have hOb : 8 * l.length ≤ O.length := Nat.le_of_eq HOl.out.symm
  go_wp2_with fail
  go_loopw [27] (fun i wr => ∃ k : Nat, k ≤ O.length ∧ i = .int .i64 k ∧ wr.ownsRow w.heap.size 5 1 (.slice (some ⟨w.heap.size, 0, none⟩) l.length l.length) l.length (u8s (We.pack l.length (We.layTo l F T k))) ∧
    w2.grownBy wr (some w.heap.size)) (fun i _ => O.length - (intOf i).toNat)
  case atStart => exact ⟨0, Nat.zero_le _, rfl, hown3, World.grownBy.refl _ _⟩
  case round =>
    obtain ⟨k, hk, rfl, hownr, hgr⟩ := hrel
    clear hown3
    by_cases hlt : k < O.length
    · obtain ⟨g2, hA2, hg2, hg2lt⟩ := own_where HO2.out (by omega)
      subst hA2
      obtain ⟨p, hp⟩ : ∃ p, p = O.getD k 0 := ⟨_, rfl⟩
      have hplt : p < 8 * l.length := by rw [hp]; exact HOlt.out k (by omega)
      have hoc := hgr.cell (own_cell HO2.out (n64s_get (getD_of hlt))) (by simp; omega)
      rw [← hp] at hoc
      obtain ⟨x, hx⟩ : ∃ x, l[k / 8]? = some x := ⟨_, List.getElem?_eq_getElem (by omega)⟩
      have hx8 := HB.out.at_ hx
      obtain ⟨b1, o1, rfl, hbb, hc1⟩ := (HA.out.below HB2.out (Nat.le_refl _)).at_ (u8s_get hx)
      have hc1 := hgr.cell hc1 (by simp; omega)
      have hyc := own_cell hownr (u8s_get (pack_get l.length (We.layTo l F T k) (show p / 8 < l.length by omega)))
      have hyf := hownr.frozenAt (p / 8)
      have HOR := hide hownr
      have HX := hide hx
      have HP := hide hp
      have g1 : (k : Int) < 8 * (l.length : Int) := by omega
      have g2 : (p : Int) < 8 * (l.length : Int) := by omega
      have HG := hide hgr
      clear hownr hx hp hgr
      go_wp2
      have q1 : (p : Int).tdiv 8 = (p : Int) / 8 := Int.tdiv_eq_ediv_of_nonneg (by omega)
      have q2 : (0 : Int) ≤ (p : Int) / 8 := by omega
      have q3 : (p : Int) / 8 < (l.length : Int) := by omega
      have q4 : ((p : Int) / 8).toNat = p / 8 := by omega
      have q5 : (p : Int).tmod 8 = (p : Int) % 8 := Int.tmod_eq_emod_of_nonneg (by omega)
      have q6 : (0 : Int) ≤ 7 - (p : Int) % 8 := by omega
      have q7 : (p : Int) % 8 < 8 := by omega
      have q8 : IntKind.i64.wrap ((p : Int) / 8) = (p : Int) / 8 := IntWalk.i64_in _ ⟨by omega, by omega⟩
      have q9 : IntKind.i64.wrap ((p : Int) % 8) = (p : Int) % 8 := IntWalk.i64_in _ ⟨by omega, by omega⟩
      have q10 : IntKind.i64.wrap (7 - (p : Int) % 8) = 7 - (p : Int) % 8 := IntWalk.i64_in _ ⟨by omega, by omega⟩
      have q11 : (7 - (p : Int) % 8).toNat = 7 - p % 8 := by omega
      refine wp_region_still_tail 14 (by kernel_rfl) (by kernel_rfl) ?_
      simp only [List.take_succ_cons, List.take_zero, List.drop_succ_cons, List.drop_zero]
      repeat still_step
      still_call (bit_still b1 o1 l.length c k x hx8 (by omega) (by omega) wr.drew hc1)
      repeat still_step
      refine wpStill_nil ?_
      clear q1 q2 q3 q4 q5 q6 q7 q8 q9 q10 q11
      go_wp2
      go_roundw
      case rel =>
        refine ⟨k + 1, by omega, by go_num, ?_, grown_drew (grown_set HG.out _ _)⟩
        have hv := HV.out k (by omega)
        rw [← HP.out] at hv
        have hnext := lay_next l F T l.length k k p x HTl.out HTn.out (by omega) hv.1 hv.2 (by omega) HX.out
        have := own_store HOR.out (p / 8) (.int .u8 ((We.val8 (We.layTo l F T k) (8 * (p / 8)) ||| x / 2 ^ (7 - k % 8) % 2 * 2 ^ (7 - p % 8) : Nat) : Int))
        rw [u8s_set, hnext, ← or_shift _ x (7 - k % 8) (7 - p % 8) (We.val8_lt (We.layTo_bit l F T k) _) (by omega)] at this
        exact this
      case measure => simp [intOf]; omega
    · obtain rfl : k = O.length := by omega
      go_wp2
      go_ret
      rw [HOl.out] at hownr
      exact ⟨_, rfl, hownr, grown_below hgr HB2.out (Nat.le_refl _) HB2.out.size⟩
end Go.Proofs.Ytcbbnddhihmafaa
