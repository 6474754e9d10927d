/- Layer 26: the law NonceDraws, walked. No conditions. -/
import Derived.Test.YtcbbnddhihmafaaNonE
import Derived.Deep.RegionHeld3
namespace Go.Proofs.Ytcbbnddhihmafaa
open Go.RowKit No
set_option linter.unusedVariables false

theorem src_nextK (w : World) (B g k : Nat) (L : List Nat) (F : Nat → Prop) (h : Src w B g L (usedN L k) F) (hL : L.length ≤ 17592186044416) (hk : k ≤ 1099511627776) :
    Calls Try.prog 54 #[.pointer (some ⟨g, 0, none⟩)] w fun e w' => ∃ F', e = .returned (.int .u64 (nextN L k : Nat)) ∧ Src w' B g L (usedN L (k + 1)) F' ∧ Turn F F' w w' := by
  refine (src_next w B g L _ F h hL (by rw [usedN_length]; exact hk)).mono ?_
  rintro e w' ⟨F', he, hs, ht⟩
  rw [usedN_length] at he hs
  exact ⟨F', he, by rw [usedN_succ]; exact hs, ht⟩
theorem rsrc_nextK (w : World) (B g k : Nat) (L : List Nat) (F : Nat → Prop) (h : RSrc w B g L (usedN L k) F) (hL : L.length ≤ 17592186044416) (hk : k ≤ 1099511627776) :
    Calls Try.prog 55 #[.pointer (some ⟨g, 0, none⟩)] w fun e w' => ∃ F', e = .returned (.int .u64 (nextN L k : Nat)) ∧ RSrc w' B g L (usedN L (k + 1)) F' ∧ Turn F F' w w' := by
  refine (rsrc_next w B g L _ F h hL (by rw [usedN_length]; exact hk)).mono ?_
  rintro e w' ⟨F', he, hs, ht⟩
  rw [usedN_length] at he hs
  exact ⟨F', he, by rw [usedN_succ]; exact hs, ht⟩

set_option maxRecDepth 100000 in
set_option maxHeartbeats 4000000 in
theorem walk_NonceDraws (w : World) (a : Option Addr) (c : Nat) (l : List Nat) (hi : InU w a c l) (n : Int) (hn : Fit n) :
    Calls Try.prog 14 #[.slice a l.length c, .int .i64 n] w fun e w' => e = .returned (.bool true) ∧ Below w.heap.size w w' := by
  have hll := hi.reach
  by_cases hlen : 200 < l.length
  · clear hi hn
    go_enter Try.func14, Try.ntmps14
    go_wp2_with (go_at_call 48; refine (live26 _).mono ?_; rintro e w' ⟨rfl, hb⟩)
    go_ret
    exact ⟨rfl, hb⟩
  · by_cases hn0 : n < 0
    · clear hi hn
      go_enter Try.func14, Try.ntmps14
      go_wp2_with (go_at_call 48; refine (live26 _).mono ?_; rintro e w' ⟨rfl, hb⟩)
      go_ret
      exact ⟨rfl, hb⟩
    · by_cases hn3 : 300 < n
      · clear hi hn hn0
        have hn0 : ¬ n < 0 := by omega
        go_enter Try.func14, Try.ntmps14
        go_wp2_with (go_at_call 48; refine (live26 _).mono ?_; rintro e w' ⟨rfl, hb⟩)
        go_ret
        exact ⟨rfl, hb⟩
      · obtain ⟨N, rfl⟩ : ∃ N : Nat, n = N := ⟨n.toNat, by omega⟩
        have HI := hide hi
        have hN : N ≤ 300 := by omega
        have HS1 := hide (src_new a c l hll w hi.rd)
        clear hi hn hn0
        go_enter Try.func14, Try.ntmps14
        go_wp2_with fail
        refine HS1.out.mono ?_; rintro e w1 ⟨g, F, rfl, hs, hb1⟩
        have HR1 := hide (rsrc_new a c l hll w1 (HI.out.rd.on hb1))
        have HS := hide hs
        have HB1 := hide hb1
        clear hs hb1 HS1
        go_wp2_with fail
        refine HR1.out.mono ?_; rintro e w2 ⟨gr, G, rfl, hr, hb2⟩
        have HS2 := hide (HS.out.on hb2)
        have HR2 := hide hr
        have HOFF := hide (Off.new HS.out.1 hr.1 (Nat.le_refl _))
        have HB2 := hide (below2 HB1.out hb2 (Nat.le_refl _))
        have HGR := hide HB1.out.size
        clear hr hb2 HR1 HS
        go_wp2
        go_loopw [7] (fun i wr => ∃ k : Nat, k ≤ N ∧ i = .int .i64 k ∧ Hid (∃ F' G', Src wr w.heap.size g l (usedN l k) F' ∧ RSrc wr w1.heap.size gr l (usedN l k) G' ∧ Off F' G') ∧ Hid (Below w.heap.size w wr)) (fun i _ => N - (intOf i).toNat)
        case atStart => exact ⟨0, Nat.zero_le _, rfl, hide ⟨F, G, HS2.out, HR2.out, HOFF.out⟩, HB2⟩
        case round =>
          obtain ⟨k, hk, rfl, hobj, hbel⟩ := hrel
          by_cases hlt : k < N
          · obtain ⟨F1, G1, hs1, hr1, ho1⟩ := hobj.out
            have HN := hide (src_nextK wr _ g k l F1 hs1 hll (by omega))
            have HS1 := hide hs1
            have HR1 := hide hr1
            have HO1 := hide ho1
            clear hs1 hr1 ho1 hobj HS2 HR2
            go_wp2_with fail
            refine HN.out.mono ?_; rintro e wx ⟨F2, rfl, hs2, ht2⟩
            have hrx := HR1.out.kept (ht2.kept HO1.out HR1.out.1) ht2.size
            have HN2 := hide (rsrc_nextK wx _ gr k l G1 hrx hll (by omega))
            have HS2 := hide hs2
            have HO2 := hide (ht2.off HO1.out HR1.out.1)
            have HBX := hide (ht2.below hbel.out HS1.out.1 hbel.out.size)
            have HRX := hide hrx
            have hx0 := hide (fun h : k < l.length => nextN_lt (L := l) h)
            clear ht2 hs2 hrx HN
            obtain ⟨x, hx⟩ : ∃ x, x = nextN l k := ⟨_, rfl⟩
            rw [← hx]
            rw [← hx] at hx0 HN2
            have ht : ((x : Int) != (x : Int)) = false := by simp
            clear hx
            go_wp2_with fail
            refine HN2.out.mono ?_; rintro e wy ⟨G2, rfl, hr2, ht2⟩
            have hsy := HS2.out.kept (ht2.kept HO2.out.symm HS2.out.1) ht2.size
            have HREL : Hid (∃ F' G', Src wy w.heap.size g l (usedN l (k + 1)) F' ∧ RSrc wy w1.heap.size gr l (usedN l (k + 1)) G' ∧ Off F' G') := ⟨F2, G2, hsy, hr2, (ht2.off HO2.out.symm HS2.out.1).symm⟩
            have HBY := hide (ht2.below HBX.out (HRX.out.1.down HGR.out) HBX.out.size)
            clear ht2 hsy hr2 HN2
            by_cases hkl : k < l.length
            · obtain ⟨b1, o1, rfl, _, hc1⟩ := (HI.out.rd.below HBY.out (Nat.le_refl _)).at_ (u64s_get (hx0.out hkl))
              go_wp2
              go_roundw
              case rel => exact ⟨k + 1, by omega, by go_num, HREL, HBY⟩
              case measure => simp [intOf]; omega
            · go_wp2
              go_roundw
              case rel => exact ⟨k + 1, by omega, by go_num, HREL, HBY⟩
              case measure => simp [intOf]; omega
          · obtain rfl : k = N := by omega
            obtain ⟨F1, G1, hs1, hr1, ho1⟩ := hobj.out
            have HU := hide (src_used _ _ g l (usedN l k) F1 hs1 (by rw [usedN_length]; omega))
            have HS1 := hide hs1
            have HR1 := hide hr1
            have HO1 := hide ho1
            have H40 := hide (show (usedN l k).length ≤ 1099511627776 by rw [usedN_length]; omega)
            clear hs1 hr1 ho1 hobj HS2 HR2 hlt hk
            go_wp2_with fail
            refine HU.out.mono ?_; rintro e w5 ⟨A5, c5, rfl, hown5, hb5⟩
            have hs5 := HS1.out.on hb5
            have hr5 := HR1.out.on hb5
            have HB5 := hide (below2 hbel.out hb5 (Nat.le_refl _))
            have HS5 := hide hs5
            have HR5 := hide hr5
            have HO5 := hide hown5
            obtain ⟨_, hGr, D, cD, V, cV, hblk, _, _, howr, _⟩ := hr5
            have hcV : w5.cell? ⟨gr, 1, none⟩ = some (.slice V (usedN l k).length cV) := hblk.cell rfl
            have HSM := hide (sameU_any A5 V c5 cV w5.heap.size (usedN l k) (usedN l k) w5 (own_rd hown5) (own_rd howr) (by rw [usedN_length]; omega))
            have hne : (usedN l k == usedN l k) = true := by simp
            rw [hne] at HSM
            clear hs5 hb5 hblk howr hne hown5 HU
            go_wp2_with fail
            refine HSM.out.mono ?_; rintro e w6 ⟨rfl, nd, rfl⟩
            clear hcV
            by_cases hk0 : 0 < k
            · have hl0 : (usedN l k).length = k := usedN_length l k
              obtain ⟨y, hy⟩ : ∃ y, (usedN l k)[0]? = some y := ⟨_, List.getElem?_eq_getElem (by omega)⟩
              obtain ⟨g5, rfl, hg51, hg52⟩ := own_where HO5.out (by omega)
              have hy0 : (w5.drewN nd).cell? ⟨g5, 0, none⟩ = some (.int .u64 (y : Int)) := own_cell HO5.out (u64s_get hy)
              have hyf : (w5.drewN nd).frozen? ⟨g5, 0, none⟩ = false := HO5.out.frozenAt 0
              have hlen1 : (0 : Int) < ((usedN l k).length : Int) := by omega
              have HG5 := hide hg51
              clear hg51 hg52 hy hl0
              go_wp2
              obtain ⟨W, hW⟩ : ∃ W, W = ((w5.drewN nd).setCell ⟨g5, 0, none⟩ (.int .u64 (IntKind.u64.wrap ((y : Int) + 1)))) := ⟨_, rfl⟩
              rw [← hW]
              have HSW : Hid (Src W w.heap.size g l (usedN l k) F1) := by show Src W w.heap.size g l (usedN l k) F1; rw [hW]; exact HS5.out.kept (fun k hk => Below.heap_setCell w5 ⟨g5, 0, none⟩ _ k (fun e => by have h1 := (HS1.out.1 k hk).2; have h2 := HG5.out; simp only at e; omega)) (by simp [World.setCell])
              have HRW : Hid (RSrc W w1.heap.size gr l (usedN l k) G1) := by show RSrc W w1.heap.size gr l (usedN l k) G1; rw [hW]; exact HR5.out.kept (fun k hk => Below.heap_setCell w5 ⟨g5, 0, none⟩ _ k (fun e => by have h1 := (HR1.out.1 k hk).2; have h2 := HG5.out; simp only at e; omega)) (by simp [World.setCell])
              have HBW : Hid (Below w.heap.size w W) := by show Below w.heap.size w W; rw [hW]; exact (below_drewN HB5.out nd).setCell (p := ⟨g5, 0, none⟩) (Nat.le_trans hbel.out.size HG5.out) _
              have HU := hide (src_used W.drew w.heap.size g l (usedN l k) F1 (show Src W.drew w.heap.size g l (usedN l k) F1 from HSW.out) H40.out)
              obtain ⟨_, hGr, D, cD, V, cV, hblk, _, _, howr, _⟩ := HRW.out
              have hcV : W.cell? ⟨gr, 1, none⟩ = some (.slice V (usedN l k).length cV) := hblk.cell rfl
              have hgrW := hblk.lt
              have HRV : Hid (Rd W.drew.heap.size W.drew V (u64s (usedN l k))) := own_rd howr
              have HCV : Hid (W.drew.cell? ⟨gr, 1, none⟩ = some (.slice V (usedN l k).length cV)) := hcV
              have HGW : Hid (gr < W.drew.heap.size) := hgrW
              have HLL := hide (show (usedN l k).length ≤ 9223372036854775807 by have := H40.out; omega)
              clear hW hblk howr
              go_wp2
              go_region_held3 (fun w' => w'.cell? ⟨gr, 1, none⟩ = some (.slice V (usedN l k).length cV)) (first
                  | exact keep1 hq1 HGW.out HCV.out
                  | exact keep1 (below_drewN hq1 _) HGW.out HCV.out
                  | exact keep1 (below2 hq1 hq2 (Nat.le_refl _)) HGW.out HCV.out
                  | exact keep1 (below2 (below2 hq1 hq2 (Nat.le_refl _)) hq3 (Nat.le_refl _)) HGW.out HCV.out
                  | go_keep)
                ((first
                  | (go_at_call 56; (with_reducible refine HU.out.mono ?_); rintro e wq1 ⟨A1, c1, rfl, hq0, hq1⟩)
                  | (go_at_call 57; (with_reducible refine (sameU_eq (own_rd hq0) (HRV.out.on hq1) HLL.out).mono ?_); rintro e wq2 ⟨rfl, hq2⟩)
                  | (go_at_call 54; (with_reducible refine (nil_next26 _).mono ?_); rintro e w' ⟨rfl, rfl⟩)
                  | (go_at_call 56; (with_reducible refine (nil_used26 _).mono ?_); rintro e w' ⟨rfl, rfl⟩)
                  | (go_at_call 48; (with_reducible refine (live26 _).mono ?_); rintro e wq3 ⟨rfl, hq3⟩)))
              go_wp2
              go_ret
              exact ⟨rfl, below2 HBW.out.drew (below2 (below2 hq1 hq2 (Nat.le_refl _)) hq3 (Nat.le_refl _)) (Nat.le_refl _)⟩
            · have hlen1 : ¬ (0 : Int) < ((usedN l k).length : Int) := by rw [usedN_length]; omega
              go_wp2
              obtain ⟨W, hW⟩ : ∃ W, W = w5.drewN nd := ⟨_, rfl⟩
              rw [← hW]
              have HSW : Hid (Src W w.heap.size g l (usedN l k) F1) := by show Src W w.heap.size g l (usedN l k) F1; rw [hW]; exact HS5.out
              have HRW : Hid (RSrc W w1.heap.size gr l (usedN l k) G1) := by show RSrc W w1.heap.size gr l (usedN l k) G1; rw [hW]; exact HR5.out
              have HBW : Hid (Below w.heap.size w W) := by show Below w.heap.size w W; rw [hW]; exact below_drewN HB5.out nd
              have HU := hide (src_used W.drew w.heap.size g l (usedN l k) F1 (show Src W.drew w.heap.size g l (usedN l k) F1 from HSW.out) H40.out)
              obtain ⟨_, hGr, D, cD, V, cV, hblk, _, _, howr, _⟩ := HRW.out
              have hcV : W.cell? ⟨gr, 1, none⟩ = some (.slice V (usedN l k).length cV) := hblk.cell rfl
              have hgrW := hblk.lt
              have HRV : Hid (Rd W.drew.heap.size W.drew V (u64s (usedN l k))) := own_rd howr
              have HCV : Hid (W.drew.cell? ⟨gr, 1, none⟩ = some (.slice V (usedN l k).length cV)) := hcV
              have HGW : Hid (gr < W.drew.heap.size) := hgrW
              have HLL := hide (show (usedN l k).length ≤ 9223372036854775807 by have := H40.out; omega)
              clear hW hblk howr
              go_wp2
              go_region_held3 (fun w' => w'.cell? ⟨gr, 1, none⟩ = some (.slice V (usedN l k).length cV)) (first
                  | exact keep1 hq1 HGW.out HCV.out
                  | exact keep1 (below_drewN hq1 _) HGW.out HCV.out
                  | exact keep1 (below2 hq1 hq2 (Nat.le_refl _)) HGW.out HCV.out
                  | exact keep1 (below2 (below2 hq1 hq2 (Nat.le_refl _)) hq3 (Nat.le_refl _)) HGW.out HCV.out
                  | go_keep)
                ((first
                  | (go_at_call 56; (with_reducible refine HU.out.mono ?_); rintro e wq1 ⟨A1, c1, rfl, hq0, hq1⟩)
                  | (go_at_call 57; (with_reducible refine (sameU_eq (own_rd hq0) (HRV.out.on hq1) HLL.out).mono ?_); rintro e wq2 ⟨rfl, hq2⟩)
                  | (go_at_call 54; (with_reducible refine (nil_next26 _).mono ?_); rintro e w' ⟨rfl, rfl⟩)
                  | (go_at_call 56; (with_reducible refine (nil_used26 _).mono ?_); rintro e w' ⟨rfl, rfl⟩)
                  | (go_at_call 48; (with_reducible refine (live26 _).mono ?_); rintro e wq3 ⟨rfl, hq3⟩)))
              go_wp2
              go_ret
              exact ⟨rfl, below2 HBW.out.drew (below2 (below2 hq1 hq2 (Nat.le_refl _)) hq3 (Nat.le_refl _)) (Nat.le_refl _)⟩
end Go.Proofs.Ytcbbnddhihmafaa
