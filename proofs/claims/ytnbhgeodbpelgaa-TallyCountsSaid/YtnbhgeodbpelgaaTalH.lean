/- Layer 18: the law TallyCounts, walked. No conditions. -/
import Derived.Test.YtnbhgeodbpelgaaTalG
namespace Go.Proofs.Ytnbhgeodbpelgaa
open Go.RowKit
set_option linter.unusedVariables false
attribute [local go_sem ↓] Go.wp_at_zero Go.wp_at_succ

/-- no message stands twice under one label. -/
def Distinct (s : List Trow) : Prop := ∀ (i j : Nat) (a b : Trow), s[i]? = some a → s[j]? = some b → a.1 = b.1 → a.2.1 = b.2.1 → i = j
theorem Distinct.nil : Distinct [] := fun i j a b h => by simp at h
theorem Distinct.idx {s : List Trow} (h : Distinct s) {i : Nat} {r : Trow} (hi : s[i]? = some r) : idxT s r.1 r.2.1 = some i := by
  cases hx : idxT s r.1 r.2.1 with
  | none => exact absurd ⟨rfl, rfl⟩ (idx_none hx r (List.mem_of_getElem? hi))
  | some j =>
    obtain ⟨c, hc⟩ := idx_some hx
    rw [h j i _ _ hc hi rfl rfl]
theorem Distinct.cnt {s : List Trow} (h : Distinct s) {i : Nat} {r : Trow} (hi : s[i]? = some r) : cntT s r.1 r.2.1 = r.2.2 := cnt_some (h.idx hi) hi
theorem Distinct.add {s : List Trow} (h : Distinct s) (lb : Int) (m : List Nat) : Distinct (addT s lb m) := by
  unfold addT
  cases hx : idxT s lb m with
  | some k =>
    intro i j a b hi hj h1 h2
    rw [upT_get] at hi hj
    obtain ⟨a0, ha0, rfl⟩ := Option.map_eq_some_iff.1 hi
    obtain ⟨b0, hb0, rfl⟩ := Option.map_eq_some_iff.1 hj
    refine h i j a0 b0 ha0 hb0 ?_ ?_
    · have e1 : (if i = k then (a0.1, a0.2.1, a0.2.2 + 1) else a0).1 = a0.1 := by split <;> rfl
      have e2 : (if j = k then (b0.1, b0.2.1, b0.2.2 + 1) else b0).1 = b0.1 := by split <;> rfl
      rw [← e1, ← e2]; exact h1
    · have e1 : (if i = k then (a0.1, a0.2.1, a0.2.2 + 1) else a0).2.1 = a0.2.1 := by split <;> rfl
      have e2 : (if j = k then (b0.1, b0.2.1, b0.2.2 + 1) else b0).2.1 = b0.2.1 := by split <;> rfl
      rw [← e1, ← e2]; exact h2
  | none =>
    have hn := idx_none hx
    intro i j a b hi hj h1 h2
    have hil := (List.getElem?_eq_some_iff.1 hi).1
    have hjl := (List.getElem?_eq_some_iff.1 hj).1
    simp at hil hjl
    by_cases ei : i < s.length
    · rw [List.getElem?_append_left ei] at hi
      by_cases ej : j < s.length
      · rw [List.getElem?_append_left ej] at hj
        exact h i j a b hi hj h1 h2
      · obtain rfl : j = s.length := by omega
        simp at hj; subst hj
        exact absurd ⟨h1, h2⟩ (hn a (List.mem_of_getElem? hi))
    · obtain rfl : i = s.length := by omega
      simp at hi; subst hi
      by_cases ej : j < s.length
      · rw [List.getElem?_append_left ej] at hj
        exact absurd ⟨h1.symm, h2.symm⟩ (hn b (List.mem_of_getElem? hj))
      · omega
theorem tot_take {s : List Trow} {k : Nat} {r : Trow} (h : s[k]? = some r) : tot (s.take (k + 1)) = tot (s.take k) + r.2.2 := by
  rw [List.take_add_one, h]
  exact tot_snoc _ _
theorem tot_take_le (s : List Trow) (k : Nat) : tot (s.take k) ≤ tot s := by
  have h : tot (s.take k) + tot (s.drop k) = tot s := by unfold tot; rw [← List.sum_append, ← List.map_append, List.take_append_drop]
  omega
/-- of two slices of bytes: they are the same list, or not; nothing old has turned. -/
theorem same_anyB (A C : Option Addr) (c d B : Nat) (l m : List Nat) (w : World) (hA : Rd B w A (u8s l)) (hC : Rd B w C (u8s m)) (hl : l.length ≤ 9223372036854775807) :
    Calls Try.prog 32 #[.slice A l.length c, .slice C m.length d] w fun e w' => e = .returned (.bool (l == m)) ∧ Below w.heap.size w w' :=
  (same_any A C c d B l m w hA hC hl).mono fun e w' ⟨he, n, hn⟩ => ⟨he, by rw [hn]; exact below_drewN (Below.refl _ _) n⟩
/-- what the first loop keeps. -/
def KeepT (w0 wr : World) (gt N : Nat) : Prop := ∃ s F, Ta wr w0.heap.size gt s F ∧ Below w0.heap.size w0 wr ∧ tot s = N ∧ Distinct s
section
variable {w0 wr w' : World} {gt N : Nat} {s : List Trow} {F F' : Nat → Prop}
theorem KeepT.step {lb : Int} {m : List Nat} (h : Ta wr w0.heap.size gt s F) (hb : Below w0.heap.size w0 wr) (hN : tot s = N) (hd : Distinct s) (h2 : Ta w' w0.heap.size gt (addT s lb m) F') (ht : Turn F F' wr w') : KeepT w0 w' gt (N + 1) :=
  ⟨_, F', h2, ht.below hb h.foot hb.size, by rw [tot_add, hN], hd.add lb m⟩
end
set_option maxRecDepth 100000 in
set_option maxHeartbeats 4000000 in
theorem walk_TallyCounts (w : World) (a : Option Addr) (c : Nat) (l : List Told) (hl : InT w a c l) :
    Calls Try.prog 10 #[.slice a l.length c] w fun e w' => e = .returned (.bool true) ∧ Below w.heap.size w w' := by
  have HH := hide (huge18 hl)
  have HL := hide hl
  have hll : l.length ≤ 9223372036854775807 := Nat.le_trans hl.cap hl.max
  clear hl
  go_enter Try.func10, Try.ntmps10
  go_wp2_with fail
  refine HH.out.mono ?_; rintro e w' ⟨b, rfl, rfl, hsm⟩
  have HSM := hide hsm
  clear hsm HH
  cases b
  case true =>
    go_wp2_with fail
    refine (live18 _).mono ?_; rintro e w' ⟨rfl, hb⟩
    go_wp2
    go_ret
    exact ⟨rfl, hb⟩
  case false =>
    have hl100 : l.length ≤ 100 := (HSM.out rfl).1
    have HS4 := hide (HSM.out rfl).2
    clear HSM
    go_wp2_with fail
    refine (ta_new w).mono ?_; rintro e w1 ⟨gt, F1, rfl, h1, hb1⟩
    have HK1 : Hid (KeepT w w1 gt 0) := ⟨_, _, h1, hb1, rfl, Distinct.nil⟩
    clear h1 hb1
    go_wp2
    go_loopw [4, 5] (fun n i wr => ∃ k : Nat, k ≤ l.length ∧ i = .int .i64 k ∧ ∃ N : Nat, N ≤ k ∧ n = .int .u64 N ∧ Hid (KeepT w wr gt N)) (fun _ i _ => l.length - (intOf i).toNat)
    case atStart => exact ⟨0, Nat.zero_le _, rfl, 0, Nat.le_refl _, rfl, HK1.out⟩
    case round =>
      obtain ⟨k, hk, rfl, N, hN, rfl, hrel⟩ := hrel
      obtain ⟨s, F, hta, hbw, htot, hdis⟩ := hrel.out
      have HTA := hide hta
      have HBW := hide hbw
      have HTT := hide htot
      have HD := hide hdis
      clear hrel hta hbw htot hdis HK1
      by_cases hlt : k < l.length
      · obtain ⟨⟨lb, m, cl⟩, hpm⟩ : ∃ x, l[k]? = some x := ⟨_, List.getElem?_eq_getElem hlt⟩
        have hml := HS4.out k _ hpm
        obtain ⟨b, o, A, cA, rfl, hbl, h0, h1, h2, hrd, hby, _, hfl⟩ := HL.out.rd k _ hpm
        dsimp only at h0 h1 h2 hrd hby hfl hml
        have HC := hide (fun (W : World) (hb : Below w.heap.size w W) => (show W.cell? ⟨b, o + k * 3, none⟩ = some (.int .i64 lb) ∧ W.cell? ⟨b, o + k * 3 + 1, none⟩ = some (.slice A m.length cA) from ⟨(hb.cell (p := ⟨b, o + k * 3, none⟩) hbl).trans h0, (hb.cell (p := ⟨b, o + k * 3 + 1, none⟩) hbl).trans h1⟩))
        have q2 := (HBW.out.cell (p := ⟨b, o + k * 3 + 2, none⟩) hbl).trans h2
        have HRD := hide hrd
        have HBY := hide hby
        have HFL := hide hfl
        have HML := hide hml
        have g0 : (0 : Int) ≤ (k : Int) := by omega
        have g3 : (k : Int) < (l.length : Int) := by omega
        clear hpm h0 h1 h2 hrd hby hfl hml hbl
        cases cl
        case true =>
          have HCL := hide (ta_clear HTA.out)
          go_wp2_with fail
          refine HCL.out.mono ?_; rintro e w2 ⟨rfl, h2, ht2⟩
          have HB2 := hide (ht2.below HBW.out HTA.out.foot HBW.out.size)
          have HT2 := hide h2
          have HAD := hide (ta_add (w := w2.drew) (h2.on (Below.refl _ _).drew) (by simp [tot]) lb HFL.out A cA m ((HRD.out.below HB2.out.drew (Nat.le_refl _)).more HB2.out.size) HBY.out (by have := HML.out; omega))
          unfold AddR at HAD
          have c0 := HC.out _ HB2.out.drew
          clear h2 ht2 HCL q2
          go_wp2
          go_region_held3 (fun W => W.cell? ⟨b, o + k * 3, none⟩ = some (.int .i64 lb) ∧ W.cell? ⟨b, o + k * 3 + 1, none⟩ = some (.slice A m.length cA)) (first
              | exact HC.out _ (hu3.below HB2.out.drew HT2.out.foot HB2.out.size)
              | exact c0
              | go_keep)
            ((first
              | (go_at_call 47; (with_reducible refine HAD.out.mono ?_); rintro e w3 ⟨F3, rfl, h3, hu3⟩)))
          have HK3 := hide (KeepT.step (N := 0) (HT2.out.on (Below.refl w2.heap.size w2).drew) HB2.out.drew rfl Distinct.nil h3 hu3)
          clear h3 hu3
          go_wp2
          go_roundw
          case rel => exact ⟨k + 1, by omega, by go_num, 1, by omega, by go_num, HK3.out⟩
          case measure => simp [intOf]; omega
        case false =>
          have HAD := hide (ta_add (w := wr.drew) (HTA.out.on (Below.refl _ _).drew) (by have := HTT.out; omega) lb HFL.out A cA m ((HRD.out.below HBW.out.drew (Nat.le_refl _)).more HBW.out.size) HBY.out (by have := HML.out; omega))
          unfold AddR at HAD
          have c0 := HC.out _ HBW.out.drew
          go_wp2
          go_region_held3 (fun W => W.cell? ⟨b, o + k * 3, none⟩ = some (.int .i64 lb) ∧ W.cell? ⟨b, o + k * 3 + 1, none⟩ = some (.slice A m.length cA)) (first
              | exact HC.out _ (hu3.below HBW.out.drew HTA.out.foot HBW.out.size)
              | exact c0
              | go_keep)
            ((first
              | (go_at_call 47; (with_reducible refine HAD.out.mono ?_); rintro e w3 ⟨F3, rfl, h3, hu3⟩)))
          have HK3 := hide (KeepT.step (HTA.out.on (Below.refl wr.heap.size wr).drew) HBW.out.drew HTT.out HD.out h3 hu3)
          clear h3 hu3
          go_wp2
          go_roundw
          case rel => exact ⟨k + 1, by omega, by go_num, N + 1, by omega, by go_num, HK3.out⟩
          case measure => simp [intOf]; omega
      · have HRW := hide (ta_rows HTA.out (by have := HTT.out; omega))
        have htn : tot s ≤ 100 := by have := HTT.out; omega
        have HTN := hide htn
        have hsl : s.length ≤ 100 := Nat.le_trans HTA.out.ok.len htn
        clear htn
        go_wp2_with fail
        refine HRW.out.mono ?_; rintro e w5 ⟨V, cV, F5, rfl, hr5, hf5, hb5⟩
        have HR5 := hide hr5
        have HB5 := hide (below2 HBW.out hb5 (Nat.le_refl _))
        have HT5 := hide (HTA.out.on hb5)
        clear hr5 hf5 hb5 HRW hlt
        go_wp2
        go_loopw [6, 8] (fun n i wr2 => ∃ k : Nat, k ≤ s.length ∧ i = .int .i64 k ∧ ∃ M : Nat, M ≤ 1000 ∧ n = .int .u64 M ∧ Hid (M = tot (s.take k)) ∧ Hid (Below w5.heap.size w5 wr2)) (fun _ i _ => s.length - (intOf i).toNat)
        case atStart => exact ⟨0, Nat.zero_le _, rfl, 0, by omega, rfl, rfl, Below.refl _ _⟩
        case round =>
          obtain ⟨k2, hk2, rfl, M, hM, rfl, hMM, HB6⟩ := hrel
          by_cases hlt : k2 < s.length
          · obtain ⟨⟨rl, rm, rc⟩, hr⟩ : ∃ r, s[k2]? = some r := ⟨_, List.getElem?_eq_getElem hlt⟩
            obtain ⟨ok1, ok2, ok3, _⟩ := HTA.out.ok _ (List.mem_of_getElem? hr)
            dsimp only at ok1 ok2 ok3
            obtain ⟨b2, D2, c2, hVe, hbl2, _, p0, p1, p2, _, hrd2, _⟩ := HR5.out.get hr
            dsimp only at p0 p1 p2 hrd2
            subst hVe
            have HC := hide (fun (W : World) (hb : Below w5.heap.size w5 W) => (show W.cell? ⟨b2, k2 * 3, none⟩ = some (.int .i64 rl) ∧ W.cell? ⟨b2, k2 * 3 + 1, none⟩ = some (.slice D2 rm.length c2) ∧ W.cell? ⟨b2, k2 * 3 + 2, none⟩ = some (.int .u64 (rc : Nat)) from
              ⟨(hb.cell (p := ⟨b2, k2 * 3, none⟩) hbl2).trans p0, (hb.cell (p := ⟨b2, k2 * 3 + 1, none⟩) hbl2).trans p1, (hb.cell (p := ⟨b2, k2 * 3 + 2, none⟩) hbl2).trans p2⟩))
            have hMs : M + rc = tot (s.take (k2 + 1)) := by rw [tot_take hr, hMM.out]
            have hM2 : M + rc ≤ 1000 := by rw [hMs]; have := tot_take_le s (k2 + 1); have := HTN.out; omega
            have HMS := hide hMs
            have HRD := hide hrd2
            have HRR := hide hr
            have HOK := hide (And.intro ok1 (And.intro ok2 ok3))
            have hcn : cntT s rl rm = rc := HD.out.cnt hr
            have HCT := hide (ta_count (w := wr.drew) (HT5.out.on HB6.out.drew) (by have := HTN.out; omega) rl ok1 D2 c2 rm (hrd2.on HB6.out.drew) ok2 (by omega))
            rw [hcn] at HCT
            have hml : rm.length ≤ 9223372036854775807 := by omega
            have c0 := (HC.out _ HB6.out).2.2
            have c0' := HC.out _ HB6.out.drew
            have n1 : ((rc : Int) != (rc : Int)) = false := by simp
            have g0 : (0 : Int) ≤ (k2 : Int) := by omega
            have g3 : (k2 : Int) < (s.length : Int) := by omega
            clear hr p0 p1 p2 hrd2 hbl2 ok1 ok2 ok3 hMs hcn
            go_wp2
            go_region_held3 (fun W => W.cell? ⟨b2, k2 * 3, none⟩ = some (.int .i64 rl) ∧ W.cell? ⟨b2, k2 * 3 + 1, none⟩ = some (.slice D2 rm.length c2) ∧ W.cell? ⟨b2, k2 * 3 + 2, none⟩ = some (.int .u64 (rc : Nat))) (first
                | exact HC.out _ (below2 HB6.out.drew hb7 (Nat.le_refl _))
                | exact c0'
                | go_keep)
              ((first
                | (go_at_call 52; (with_reducible refine HCT.out.mono ?_); rintro e w7 ⟨rfl, hb7⟩)))
            have HB7 := hide (below2 HB6.out.drew hb7 (Nat.le_refl _))
            clear hb7 HCT c0 c0' HB6
            go_wp2
            go_loopw [9] (fun i wr3 => ∃ q : Nat, q ≤ k2 ∧ i = .int .i64 q ∧ Hid (Below w5.heap.size w5 wr3)) (fun i _ => k2 - (intOf i).toNat)
            case atStart => exact ⟨0, Nat.zero_le _, rfl, HB7.out⟩
            case round =>
              obtain ⟨q, hq, rfl, HB8⟩ := hrel
              by_cases hlq : q < k2
              · obtain ⟨⟨tl, tm, tc⟩, hr2⟩ : ∃ r, s[q]? = some r := ⟨_, List.getElem?_eq_getElem (by omega)⟩
                obtain ⟨b3, D3, c3, hVe3, hbl3, _, p0, p1, _, _, hrd3, _⟩ := HR5.out.get hr2
                injection hVe3 with hVe3
                injection hVe3 with hVe3
                subst hVe3
                dsimp only at p0 p1 hrd3
                have htm : tm.length ≤ 9223372036854775807 := by have := (HTA.out.ok _ (List.mem_of_getElem? hr2)).2.2.1; dsimp only at this; omega
                have HC3 := hide (fun (W : World) (hb : Below w5.heap.size w5 W) => (show (W.cell? ⟨b2, k2 * 3, none⟩ = some (.int .i64 rl) ∧ W.cell? ⟨b2, k2 * 3 + 1, none⟩ = some (.slice D2 rm.length c2)) ∧ W.cell? ⟨b2, q * 3, none⟩ = some (.int .i64 tl) ∧ W.cell? ⟨b2, q * 3 + 1, none⟩ = some (.slice D3 tm.length c3) from
                  ⟨⟨(HC.out W hb).1, (HC.out W hb).2.1⟩, (hb.cell (p := ⟨b2, q * 3, none⟩) hbl3).trans p0, (hb.cell (p := ⟨b2, q * 3 + 1, none⟩) hbl3).trans p1⟩))
                have c3' := HC3.out _ HB8.out.drew
                have HSM := hide (same_anyB D2 D3 c2 c3 wr.drew.heap.size rm tm wr.drew (HRD.out.on HB8.out.drew) (hrd3.on HB8.out.drew) hml)
                have q0 : (0 : Int) ≤ (q : Int) := by omega
                have q3 : (q : Int) < (s.length : Int) := by omega
                have hdq : ¬ (rl = tl ∧ rm = tm) := fun h => by have := HD.out k2 q _ _ HRR.out hr2 h.1 h.2; omega
                clear hr2 p0 p1 hrd3 hbl3
                by_cases hll2 : rl = tl
                · subst hll2
                  have hne : (rm == tm) = false := by rw [beq_eq_false_iff_ne]; exact fun h => hdq ⟨rfl, h⟩
                  rw [hne] at HSM
                  clear hdq hne
                  go_wp2
                  go_region_held3 (fun W => (W.cell? ⟨b2, k2 * 3, none⟩ = some (.int .i64 rl) ∧ W.cell? ⟨b2, k2 * 3 + 1, none⟩ = some (.slice D2 rm.length c2)) ∧ W.cell? ⟨b2, q * 3, none⟩ = some (.int .i64 rl) ∧ W.cell? ⟨b2, q * 3 + 1, none⟩ = some (.slice D3 tm.length c3)) (first
                      | exact HC3.out _ (below2 HB8.out.drew hb9 (Nat.le_refl _))
                      | exact c3'
                      | go_keep)
                    ((first
                      | (go_at_call 32; (with_reducible refine HSM.out.mono ?_); rintro e w9 ⟨rfl, hb9⟩)))
                  have HB9 := hide (below2 HB8.out.drew hb9 (Nat.le_refl _))
                  clear hb9
                  go_wp2
                  go_roundw
                  case rel => exact ⟨q + 1, by omega, by go_num, HB9.out⟩
                  case measure => simp [intOf]; omega
                · have hne : (rl == tl) = false := by simp; exact hll2
                  obtain ⟨⟨y0, _⟩, y2, _⟩ := HC3.out _ HB8.out
                  clear hdq hll2
                  go_wp2
                  go_quiet (fail)
                  go_wp2
                  go_roundw
                  case rel => exact ⟨q + 1, by omega, by go_num, below_drewN HB8.out _⟩
                  case measure => simp [intOf]; omega
              · obtain rfl : q = k2 := by omega
                go_wp2
                go_roundw
                case rel => exact ⟨q + 1, by omega, by go_num, M + rc, hM2, by go_num, HMS.out, HB8.out⟩
                case measure => simp [intOf]; omega
          · obtain rfl : k2 = s.length := by omega
            rw [List.take_length, show tot s = N from HTT.out] at hMM
            have hMN : M = N := hMM.out
            subst hMN
            have n1 : ((M : Int) == (M : Int)) = true := by simp
            clear hlt
            go_wp2_with fail
            refine (live18 _).mono ?_; rintro e w' ⟨rfl, hb⟩
            have HBF := hide (below2 (below2 HB5.out HB6.out (Nat.le_refl _)) hb (Nat.le_refl _))
            clear hb
            go_wp2
            go_ret
            exact ⟨rfl, HBF.out⟩
end Go.Proofs.Ytnbhgeodbpelgaa
