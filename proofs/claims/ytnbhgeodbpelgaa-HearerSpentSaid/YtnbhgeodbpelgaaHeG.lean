/- Layer 21: a nil hearer; the law HearerSpent, walked. No conditions. -/
import Derived.Test.YtnbhgeodbpelgaaHeE
import Derived.Test.YtnbhgeodbpelgaaInC
namespace Go.Proofs.Ytnbhgeodbpelgaa
open Go.ChangeShapes Go.WideShapes Go.ChangeAt Go.RowKit Go.Deep Go.Joins
set_option linter.unusedVariables false
attribute [local go_sem ↓] Go.wp_at_zero Go.wp_at_succ

section
variable (w : World)
theorem nil_isH : Calls Try.prog 80 #[.pointer none] w fun e w' => e = .returned (.bool false) ∧ w = w' := by
  go_enter Try.func80, Try.ntmps80
  go_wp2
  go_ret
  exact ⟨rfl, rfl⟩
theorem nil_recvH : Calls Try.prog 35 #[.pointer none] w fun e w' => e = .returned (.tuple #[.slice none 0 0, .bool false]) ∧ w = w' := by
  go_enter Try.func35, Try.ntmps35
  go_wp2_with fail
  refine (nil_isH w).mono ?_; rintro e w' ⟨rfl, rfl⟩
  go_wp2
  go_ret2
  exact ⟨rfl, rfl⟩
theorem nil_tickH : Calls Try.prog 31 #[.pointer none] w fun e w' => e = .returned (.slice none 0 0) ∧ w = w' := by
  go_enter Try.func31, Try.ntmps31
  go_wp2_with fail
  refine (nil_isH w).mono ?_; rintro e w' ⟨rfl, rfl⟩
  go_wp2
  go_ret
  exact ⟨rfl, rfl⟩
theorem nil_keptH : Calls Try.prog 42 #[.pointer none] w fun e w' => e = .returned (.slice none 0 0) ∧ w = w' := by
  go_enter Try.func42, Try.ntmps42
  go_wp2_with fail
  refine (nil_isH w).mono ?_; rintro e w' ⟨rfl, rfl⟩
  go_wp2
  go_ret
  exact ⟨rfl, rfl⟩
theorem nil_takeH (k lb : Int) (v : Value) : Calls Try.prog 33 #[.pointer none, .agg #[.int .i64 k, .int .i64 lb, v]] w fun e w' => e = .returned (.slice none 0 0) ∧ Below w.heap.size w w' := by
  have HB := hide (fun o => (Below.refl w.heap.size w).alloc (Nat.le_refl _) o)
  go_enter Try.func33, Try.ntmps33
  go_wp2_with fail
  refine (nil_isH _).mono ?_; rintro e w' ⟨rfl, rfl⟩
  go_wp2
  go_ret
  exact ⟨rfl, HB.out _⟩
set_option maxRecDepth 100000 in
theorem nil_stateH : Calls Try.prog 34 #[.pointer none] w fun e w' => e = .returned (.agg #[.int .i64 0, .int .i64 0, .int .u64 0, .int .u64 0, .bool true]) ∧ Below w.heap.size w w' := by
  obtain ⟨w1, hw1⟩ : ∃ w1, w1 = w.alloc (.cells #[.int .i64 0, .int .i64 0, .int .u64 0, .int .u64 0, .bool false] 61) := ⟨_, rfl⟩
  have HX : Hid (Blk w1 w.heap.size 61 [.int .i64 0, .int .i64 0, .int .u64 0, .int .u64 0, .bool false]) := by rw [hw1]; exact Blk.new w _ _
  have HB1 : Hid (Below w.heap.size w w1) := by rw [hw1]; exact (Below.refl _ _).alloc (Nat.le_refl _) _
  have HW1 := hide hw1
  have x0 := HX.out.cell (i := 0) rfl
  have x1 := HX.out.cell (i := 1) rfl
  have x2 := HX.out.cell (i := 2) rfl
  have x3 := HX.out.cell (i := 3) rfl
  have x4 := HX.out.cell (i := 4) rfl
  have f0 := HX.out.free 0
  have f1 := HX.out.free 1
  have f2 := HX.out.free 2
  have f3 := HX.out.free 3
  have f4 := HX.out.free 4
  clear hw1
  go_enter Try.func34, Try.ntmps34
  go_wp2_with fail
  refine (nil_isH _).mono ?_; rintro e w' ⟨rfl, rfl⟩
  go_upto_region 2 with (fail)
  rw [← HW1.out]
  have hx6 := (((((HX.out.set 0 (.int .i64 0)).set 1 (.int .i64 0)).set 2 (.int .u64 0)).set 3 (.int .u64 0)).set 4 (.bool true))
  have y0 := hx6.cell (i := 0) (v := .int .i64 0) rfl
  have y1 := hx6.cell (i := 1) (v := .int .i64 0) rfl
  have y2 := hx6.cell (i := 2) (v := .int .u64 0) rfl
  have y3 := hx6.cell (i := 3) (v := .int .u64 0) rfl
  have y4 := hx6.cell (i := 4) (v := .bool true) rfl
  have HBB := hide ((((((HB1.out.setCell (p := ⟨w.heap.size, 0, none⟩) (Nat.le_refl _) (.int .i64 0)).setCell (p := ⟨w.heap.size, 1, none⟩) (Nat.le_refl _) (.int .i64 0)).setCell (p := ⟨w.heap.size, 2, none⟩) (Nat.le_refl _) (.int .u64 0)).setCell (p := ⟨w.heap.size, 3, none⟩) (Nat.le_refl _) (.int .u64 0)).setCell (p := ⟨w.heap.size, 4, none⟩) (Nat.le_refl _) (.bool true)))
  clear hx6
  go_wp2
  (try simp only [Exit.inBlock, Exit.then])
  refine bodyPost_ret (v := .agg #[.int .i64 0, .int .i64 0, .int .u64 0, .int .u64 0, .bool true]) (by simp [results, Try.results34, go_sem, y0, y1, y2, y3, y4]) rfl ?_
  exact ⟨rfl, HBB.out⟩
end
/-- packets that came in. -/
structure InP (w : World) (a : Option Addr) (c : Nat) (l : List Prb) : Prop where
  rd : ∀ (k : Nat) p, l[k]? = some p → ∃ b o u, a = some ⟨b, o, none⟩ ∧ b < w.heap.size ∧ (∀ (j : Nat) z, (prC p u)[j]? = some z → w.cell? ⟨b, o + k * 3 + j, none⟩ = some z) ∧ PrOk w p u
  cap : l.length ≤ c
  max : c ≤ 9223372036854775807
section
variable {H : Type} {enc : TypeId × Value → H} {w : World} {base : Nat} {spare : Nat → Bool} {held : Bool}
theorem open_probes {a : Option Addr} {len cap : Nat} {d : DataW H} {p : List MemPlace} (h : DataW.Trod enc Try.prog w base spare held 44 (.slice a len cap) d p) : ∃ l, len = l.length ∧ InP w a cap l := by
  obtain ⟨fuel, hf⟩ := h
  obtain ⟨L, rfl, hcap, hmax, hQ, hrd⟩ := open_rows (sz := 3) (Q := fun cs => ∃ (p : Prb) (u : Value), cs = prC p u ∧ PrOk w p u) Try.underlying44 (by kernel_rfl) (by omega) (by simpa [Value.cells] using hf) (fun n cs y hy => prb_of hy)
  obtain ⟨M, hM, hR⟩ := choose_list L hQ
  refine ⟨M, hM.symm, ⟨fun k x hk => ?_, by omega, hmax⟩⟩
  have hkL : k < L.length := by rw [← hM]; exact (List.getElem?_eq_some_iff.1 hk).1
  obtain ⟨y, hy, u, hcs, hp⟩ := hR k _ (List.getElem?_eq_getElem hkL)
  have e : y = x := Option.some.inj (hy.symm.trans hk)
  subst e
  obtain ⟨b, o, ha, hb, hc⟩ := hrd (by omega)
  exact ⟨b, o, u, ha, hb, fun j z hz => hc k _ j _ (List.getElem?_eq_getElem hkL) (by rw [hcs]; exact hz), hp⟩
end
/-- one that is spent. -/
def hS : Hst := ⟨[], ⟨18446744073709551615, 18446744073709551615, true⟩, [], 0, 0⟩
theorem hS_take (k lb : Int) (m : List Nat) : takeHS 3 hS k lb m = hS := by
  simp [takeHS, hS, heardH, Led.hearB, Led.hear]
theorem hS_tick : htickS hS = hS := by simp [htickS, hS, Led.ask]
set_option maxRecDepth 100000 in
set_option maxHeartbeats 4000000 in
theorem spent_long (w : World) (a : Option Addr) (n c : Nat) (h : 60 < n) :
    Calls Try.prog 8 #[.slice a n c] w fun e w' => e = .returned (.bool true) ∧ Below w.heap.size w w' := by
  have h1 : (60 : Int) < (n : Int) := by omega
  clear h
  go_enter Try.func8, Try.ntmps8
  go_wp2_with fail
  refine (live21 _).mono ?_; rintro e w' ⟨rfl, hb⟩
  go_wp2
  go_ret
  exact ⟨rfl, hb⟩
theorem newH_spent : newH 18446744073709551615 = hS := by
  unfold newH Led.new hS
  rw [(topB_iff _).2 rfl]
def KeepS (w wr : World) (gx : Nat) : Prop := ∃ F, He wr w.heap.size gx 3 hS F ∧ Below w.heap.size w wr
set_option maxRecDepth 100000 in
set_option maxHeartbeats 8000000 in
theorem spent_in (w : World) (a : Option Addr) (c : Nat) (l : List Prb) (hl : InP w a c l) (h60 : l.length ≤ 60) :
    Calls Try.prog 8 #[.slice a l.length c] w fun e w' => e = .returned (.bool true) ∧ Below w.heap.size w w' := by
  have HL := hide hl
  have hcn := he_new 3 (by omega) (by omega) 18446744073709551615 (by omega) w
  rw [show ((18446744073709551615 : Nat) : Int) = 18446744073709551615 from rfl] at hcn
  have HCN := hide hcn
  have hn : ¬ (60 : Int) < (l.length : Int) := by omega
  clear hl hcn
  go_enter Try.func8, Try.ntmps8
  go_wp2_with fail
  refine HCN.out.mono ?_; rintro e w1 ⟨gx, F1, rfl, hc1, hb1⟩
  rw [newH_spent] at hc1
  have HK1 : Hid (KeepS w w1 gx) := ⟨F1, hc1, hb1⟩
  clear hc1 hb1 HCN hn
  go_wp2_with fail
  refine (num21 _ _).mono ?_; rintro e w' ⟨rfl, rfl⟩
  go_wp2
  go_loopw [5] (fun i wr => ∃ k : Nat, k ≤ l.length ∧ i = .int .i64 k ∧ Hid (KeepS w wr gx)) (fun i _ => l.length - (intOf i).toNat)
  case atStart => exact ⟨0, Nat.zero_le _, rfl, HK1.out⟩
  case round =>
    obtain ⟨k, hk, rfl, hrel⟩ := hrel
    obtain ⟨F, hc, hb⟩ := hrel.out
    have HC := hide hc
    have HB := hide hb
    clear hrel hc hb HK1
    by_cases hlt : k < l.length
    · obtain ⟨p, hpm⟩ : ∃ p, l[k]? = some p := ⟨_, List.getElem?_eq_getElem hlt⟩
      obtain ⟨b, o, u, rfl, hbl, hcl, ⟨⟨A, cA, rfl, hrd, hby, hln, _⟩, _, _⟩⟩ := HL.out.rd k p hpm
      obtain ⟨pk, pl, pd⟩ := p
      dsimp only at hrd hby hln
      have q0 := (HB.out.cell (p := ⟨b, o + k * 3, none⟩) hbl).trans (hcl 0 _ rfl)
      have q1 := (HB.out.cell (p := ⟨b, o + k * 3 + 1, none⟩) hbl).trans (hcl 1 _ rfl)
      have q2 := (HB.out.cell (p := ⟨b, o + k * 3 + 2, none⟩) hbl).trans (hcl 2 _ rfl)
      dsimp only at q0 q1 q2
      have HCL := hide (fun (W : World) (hb : Below w.heap.size w W) => (hb.cell (p := ⟨b, o + k * 3, none⟩) hbl).trans (hcl 0 _ rfl))
      obtain ⟨ts, hts⟩ : ∃ ts, ts = takeHT hS pk := ⟨_, rfl⟩
      have HTS := hide hts
      have HTK := hide (hx_deaf (ts := ts) (q := ts.length) HC.out (by simp [hS]) (by simp [hS, tot]) rfl pk pl A pd.length cA pd rfl ((hrd.below HB.out (Nat.le_refl _)).more HB.out.size) (fun hn b' o' s' e hf => by
        obtain ⟨b2, o2, e2, hb2, _⟩ := hrd hn
        rw [e] at e2
        injection e2 with e2
        injection e2 with e2
        have := (HC.out.foot b' hf).1
        omega) hby (hS_take pk pl pd) hts.symm rfl)
      have g0 : (0 : Int) ≤ (k : Int) := by omega
      have g3 : (k : Int) < (l.length : Int) := by omega
      clear hpm hcl hrd hby hbl hts
      go_wp2_with fail
      refine HTK.out.mono ?_; rintro e w2 ⟨A2, c2, F2, rfl, hp2, hc2, ht2⟩
      have HC2 := hide hc2
      have HP2 := hide hp2
      have HB2 := hide (ht2.below HB.out HC.out.foot HB.out.size)
      have HT := hide (hx_tick (s' := hS) (ts := []) HC2.out hS_tick rfl rfl)
      clear hp2 hc2 ht2 HTK q1 q2
      go_wp2_with fail
      refine HT.out.mono ?_; rintro e w3 ⟨A3, c3, F3, rfl, _, hc3, ht3⟩
      have HC3 := hide hc3
      have HP3 := hide (HP2.out.turned (fun _ h => h.2) ht3)
      have HB3 := hide (ht3.below HB2.out HC2.out.foot HB2.out.size)
      have HST : Hid (∀ W, He W w.heap.size gx 3 hS F3 → Calls Try.prog 34 #[.pointer (some ⟨gx, 0, none⟩)] W fun e w' => e = .returned (.agg #[.int .i64 0, .int .i64 0, .int .u64 18446744073709551615, .int .u64 18446744073709551615, .bool true]) ∧ Below W.heap.size W w') := fun W h => hx_state h
      have hfd0 : ∀ w : World, (Instr.field 61 (.agg #[.int .i64 0, .int .i64 0, .int .u64 18446744073709551615, .int .u64 18446744073709551615, .bool true]) 0).run Try.prog w = .ok (.int .i64 0) w := fun _ => by kernel_rfl
      have hfd4 : ∀ w : World, (Instr.field 61 (.agg #[.int .i64 0, .int .i64 0, .int .u64 18446744073709551615, .int .u64 18446744073709551615, .bool true]) 4).run Try.prog w = .ok (.bool true) w := fun _ => by kernel_rfl
      clear hc3 ht3 HT q0
      go_wp2_with fail
      refine (HST.out _ HC3.out).mono ?_; rintro e w4 ⟨rfl, hb4⟩
      have HC4 := hide (HC3.out.on hb4)
      have HB4 := hide (below2 HB3.out hb4 (Nat.le_refl _))
      have HP4 := hide (HP3.out.on hb4)
      clear hb4
      go_wp2_with fail
      refine (HST.out _ HC4.out).mono ?_; rintro e w5 ⟨rfl, hb5⟩
      have HC5 := hide (HC4.out.on hb5)
      have HB5 := hide (below2 HB4.out hb5 (Nat.le_refl _))
      have HP5 := hide (HP4.out.on hb5)
      have q5 := HCL.out _ HB5.out
      clear hb5
      by_cases hk1 : pk = 1
      · subst hk1
        have e1 : ts = [(4, 1, [])] := by rw [HTS.out]; rfl
        subst e1
        have HS1 := hide (prbs_sameN (c := c2) (d := 1) (n := 1) rfl (HP5.out.on ((Below.refl w5.heap.size w5).alloc (Nat.le_refl _) (.cells #[.int .i64 4, .int .i64 1, .slice none 0 0] 36)))
          (prbs_one (P := fun _ => True) w5 4 1 none 0 [] 36 trivial (Rd.nil _ _ _) (by simp) (fun _ _ _ _ _ => trivial)) (by omega))
        go_wp2_with fail
        refine HS1.out.mono ?_; rintro e w6 ⟨rfl, hb6⟩
        have hb56 : Below w5.heap.size w5 w6 := below2 ((Below.refl w5.heap.size w5).alloc (Nat.le_refl _) _) hb6 (Nat.le_refl _)
        have HK6 : Hid (KeepS w w6 gx) := ⟨F3, HC5.out.on hb56, below2 HB5.out hb56 (Nat.le_refl _)⟩
        have q6 := HCL.out _ (below2 HB5.out hb56 (Nat.le_refl _))
        clear hb6 hb56 HS1 q5
        go_wp2
        go_roundw
        case rel => exact ⟨k + 1, by omega, by go_num, HK6.out⟩
        case measure => simp [intOf]; omega
      · have e1 : ts = [] := by rw [HTS.out]; unfold takeHT; rw [if_neg hk1]
        subst e1
        have b1 : (pk == 1) = false := by rw [beq_eq_false_iff_ne]; exact hk1
        have b2 : (pk != 1) = true := by simp; exact hk1
        clear hk1
        go_wp2
        go_roundw
        case rel => exact ⟨k + 1, by omega, by go_num, F3, HC5.out, HB5.out⟩
        case measure => simp [intOf]; omega
    · obtain rfl : k = l.length := by omega
      have hfd4 : ∀ w : World, (Instr.field 61 (.agg #[.int .i64 0, .int .i64 0, .int .u64 0, .int .u64 0, .bool true]) 4).run Try.prog w = .ok (.bool true) w := fun _ => by kernel_rfl
      go_wp2_with fail
      refine (nil_recvH _).mono ?_; rintro e w' ⟨rfl, rfl⟩
      go_wp2_with fail
      refine (nil_tickH _).mono ?_; rintro e w' ⟨rfl, rfl⟩
      go_wp2_with fail
      refine (nil_takeH _ 1 0 _).mono ?_; rintro e w2 ⟨rfl, hb2⟩
      have HB2 := hide (below2 HB.out hb2 (Nat.le_refl _))
      clear hb2
      go_wp2_with fail
      refine (nil_stateH _).mono ?_; rintro e w3 ⟨rfl, hb3⟩
      have HB3 := hide (below2 HB2.out hb3 (Nat.le_refl _))
      clear hb3
      go_wp2_with fail
      refine (nil_keptH _).mono ?_; rintro e w' ⟨rfl, rfl⟩
      go_wp2_with fail
      refine (live21 _).mono ?_; rintro e w' ⟨rfl, hbl⟩
      have HBL := hide (below2 HB3.out hbl (Nat.le_refl _))
      clear hbl
      go_wp2
      go_ret
      exact ⟨rfl, HBL.out⟩
theorem walk_HearerSpent (w : World) (a : Option Addr) (c : Nat) (l : List Prb) (hl : InP w a c l) :
    Calls Try.prog 8 #[.slice a l.length c] w fun e w' => e = .returned (.bool true) ∧ Below w.heap.size w w' := by
  by_cases h : 60 < l.length
  · exact spent_long w a _ c h
  · exact spent_in w a c l hl (by omega)
end Go.Proofs.Ytnbhgeodbpelgaa
