/- The law LedgerCounts, walked: it returns true and turns nothing that was there. No conditions. -/
import Derived.Test.YtcbbnddhihmafaaLedC
namespace Go.Proofs.Ytcbbnddhihmafaa
open Go.RowKit
set_option linter.unusedVariables false

theorem big_no (out : Nat) (h : out ≤ 4611686018427387904) : decide ((4611686018427387904 : Int) < (out : Int)) = false := by simp; omega
theorem big_yes (out : Nat) (h : 4611686018427387904 < out) : decide ((4611686018427387904 : Int) < (out : Int)) = true := by simp; omega

/-- what the law counts beside the ledger: it is never spent, and its numbers are these. -/
def CntOk (s : Led) (k : Nat) (n m : Int) : Prop := s.ok ∧ s.spent = false ∧ s.out ≤ 4611686018427387904 + k ∧ n = (s.out : Int) ∧ m = (s.mark : Int)
theorem cnt_new (out : Nat) (h : out ≤ 4611686018427387904) : CntOk (Led.new out) 0 out out := ⟨Led.ok_new _ (by omega), topB_lt (by show out < _; omega), by show out ≤ _; omega, rfl, rfl⟩
theorem cnt_ask {s : Led} {k : Nat} {n m : Int} (hk : k < 200) (h : CntOk s k n m) : s.askB = true ∧ CntOk s.ask (k + 1) (IntKind.u64.wrap (n + 1)) m := by
  obtain ⟨h1, h2, h3, rfl, rfl⟩ := h
  refine ⟨by unfold Led.askB; rw [h2]; rfl, Led.ok_ask h1, ?_⟩
  have he : s.ask = ⟨s.out + 1, s.mark, topB (s.out + 1)⟩ := by unfold Led.ask; rw [h2]; rfl
  rw [he]
  exact ⟨topB_lt (by omega), by show s.out + 1 ≤ _; omega, u64_next _ (by omega), rfl⟩
theorem cnt_hear_no {s : Led} {k : Nat} {n m : Int} (h : CntOk s k n m) (hb : s.hearB = false) : CntOk s.hear (k + 1) n m := by
  have he : s.hear = s := by unfold Led.hear; rw [hb]; rfl
  obtain ⟨h1, h2, h3, rfl, rfl⟩ := h
  rw [he]
  exact ⟨h1, h2, by omega, rfl, rfl⟩
theorem cnt_hear_yes {s : Led} {k : Nat} {n m : Int} (h : CntOk s k n m) (hb : s.hearB = true) : CntOk s.hear (k + 1) (IntKind.u64.wrap (n - 1)) m := by
  have hok := Led.ok_hear h.1
  have he : s.hear = ⟨s.out - 1, s.mark, s.spent⟩ := by unfold Led.hear; rw [hb]; rfl
  obtain ⟨h1, h2, h3, rfl, rfl⟩ := h
  have h0 : s.out ≠ 0 := by
    intro h0
    unfold Led.hearB at hb
    simp [h0] at hb
  rw [he] at hok ⊢
  exact ⟨hok, h2, by show s.out - 1 ≤ _; omega, u64_prev _ (by have := h1.1; omega) h0, rfl⟩
theorem cnt_set {s : Led} {k : Nat} {n m : Int} (h : CntOk s k n m) : CntOk s.set (k + 1) n n := by
  have hok := Led.ok_set h.1
  obtain ⟨h1, h2, h3, rfl, rfl⟩ := h
  have he : s.set = ⟨s.out, s.out, s.spent⟩ := by unfold Led.set; rw [h2]; rfl
  rw [he] at hok ⊢
  exact ⟨hok, h2, by show s.out ≤ _; omega, rfl, rfl⟩
theorem cnt_next {s : Led} {k : Nat} {n m : Int} (h : CntOk s k n m) : CntOk s (k + 1) n m := by
  obtain ⟨h1, h2, h3, h4, h5⟩ := h
  exact ⟨h1, h2, by omega, h4, h5⟩

set_option maxRecDepth 100000 in
set_option maxHeartbeats 4000000 in
theorem walk_LedgerCounts (w : World) (out : Nat) (hout : out < 18446744073709551616) (a : Option Addr) (c : Nat) (l : List Int) (hi : InI w a c l) :
    Calls Try.prog 8 #[.int .u64 (out : Int), .slice a l.length c] w fun e w' => e = .returned (.bool true) ∧ Below w.heap.size w w' := by
  have hll := hi.reach
  have HI := hide hi.rd
  by_cases hlen : 200 < l.length
  · clear hi hout
    go_enter Try.func8, Try.ntmps8
    go_wp2_with (go_at_call 29; refine (live17 _).mono ?_; rintro e w' ⟨rfl, hb⟩)
    go_ret
    exact ⟨rfl, hb⟩
  · by_cases hbig : 4611686018427387904 < out
    · have hd := big_yes out hbig
      have hlen' : (l.length : Int) ≤ 200 := by omega
      clear hi hout hbig hlen
      go_enter Try.func8, Try.ntmps8
      go_wp2_with (go_at_call 29; refine (live17 _).mono ?_; rintro e w' ⟨rfl, hb⟩)
      go_ret
      exact ⟨rfl, hb⟩
    · have hd := big_no out (by omega)
      have hdl : decide ((200 : Int) < (l.length : Int)) = false := by simp; omega
      have hlen' : (l.length : Int) ≤ 200 := by omega
      have HC := hide (cnt_new out (by omega))
      clear hi hout hbig hlen
      go_enter Try.func8, Try.ntmps8
      go_wp2_with fail
      refine (led_new out w).mono ?_; rintro e w1 ⟨rfl, ha, hb1⟩
      obtain ⟨ga, hga⟩ : ∃ ga, ga = w.heap.size := ⟨_, rfl⟩
      have HWA : Hid (w.heap.size ≤ ga) := by show w.heap.size ≤ ga; omega
      rw [← hga] at ha
      rw [← hga]
      clear hga
      go_wp2_with fail
      go_loopw [6, 7, 8] (fun n m i wr => ∃ (k : Nat) (s : Led) (x y : Int), k ≤ l.length ∧ i = .int .i64 k ∧ n = .int .u64 x ∧ m = .int .u64 y ∧ CntOk s k x y ∧ LedAt wr ga s ∧ Below w.heap.size w wr) (fun _ _ i _ => l.length - (intOf i).toNat)
      case atStart => exact ⟨0, Led.new out, _, _, Nat.zero_le _, rfl, rfl, rfl, HC.out, ha, hb1⟩
      case round =>
        obtain ⟨k, s, n, m, hk, rfl, rfl, rfl, hcnt, hla, hb⟩ := hrel
        clear ha hb1
        have HN := hide hcnt
        have HL := hide hla
        have HB := hide hb
        clear hcnt hla hb
        by_cases hkl : k < l.length
        · have hg1 : (k : Int) < (l.length : Int) := by omega
          obtain ⟨x, hx⟩ : ∃ x, l[k]? = some x := ⟨_, List.getElem?_eq_getElem hkl⟩
          obtain ⟨b1, o1, rfl, hbb, hc1⟩ := (HI.out.below HB.out (Nat.le_refl _)).at_ (i64s_get hx)
          clear hx
          have HSZ := hide HB.out.size
          rcases act_cases x with ⟨h1, rfl⟩ | ⟨h1, h2, rfl⟩ | ⟨h1, h2, h3, rfl⟩ | ⟨h1, h2, h3⟩
          · clear h1
            obtain ⟨hab, hcn⟩ := cnt_ask (by omega) HN.out
            have HA := hide (led_ask wr ga s HL.out HN.out.1)
            rw [hab] at HA
            have HCN := hide hcn
            clear hab hcn
            go_wp2_with fail
            refine HA.out.mono ?_; rintro e w3 ⟨rfl, hl3, hg3⟩
            have hc2 := hg3.cell hc1 (by have := HWA.out; simp; omega)
            have hb3 := below_grown HB.out hg3 HSZ.out HWA.out
            have C1 := hide (led_out w3 ga _ hl3)
            have C2 := hide (led_marked w3 ga _ hl3)
            have C3 := hide (led_spent w3 ga _ hl3)
            rw [← HCN.out.2.2.2.1] at C1
            rw [← HCN.out.2.2.2.2] at C2
            rw [HCN.out.2.1] at C3
            have HFIN := hide (And.intro hl3 hb3)
            clear hc1 hg3 hl3 hb3
            go_wp2_with (first
              | (go_at_call 32; refine C1.out.mono ?_; rintro e w' ⟨rfl, rfl⟩)
              | (go_at_call 33; refine C2.out.mono ?_; rintro e w' ⟨rfl, rfl⟩)
              | (go_at_call 34; refine C3.out.mono ?_; rintro e w' ⟨rfl, rfl⟩))
            go_roundw
            case rel => exact ⟨k + 1, s.ask, _, _, by omega, by go_num, rfl, rfl, HCN.out, HFIN.out.1, HFIN.out.2⟩
            case measure => simp [intOf]; omega
          · clear h2
            have HA := hide (led_hear wr ga s HL.out HN.out.1)
            cases hhb : s.hearB with
            | false =>
              have HCN := hide (cnt_hear_no HN.out hhb)
              rw [hhb] at HA
              clear hhb
              go_wp2_with fail
              refine HA.out.mono ?_; rintro e w3 ⟨rfl, hl3, hg3⟩
              have hc2 := hg3.cell hc1 (by have := HWA.out; simp; omega)
              have hb3 := below_grown HB.out hg3 HSZ.out HWA.out
              have C1 := hide (led_out w3 ga _ hl3)
              have C2 := hide (led_marked w3 ga _ hl3)
              have C3 := hide (led_spent w3 ga _ hl3)
              rw [← HCN.out.2.2.2.1] at C1
              rw [← HCN.out.2.2.2.2] at C2
              rw [HCN.out.2.1] at C3
              have HFIN := hide (And.intro hl3 hb3)
              clear hc1 hg3 hl3 hb3
              go_wp2_with (first
                | (go_at_call 32; refine C1.out.mono ?_; rintro e w' ⟨rfl, rfl⟩)
                | (go_at_call 33; refine C2.out.mono ?_; rintro e w' ⟨rfl, rfl⟩)
                | (go_at_call 34; refine C3.out.mono ?_; rintro e w' ⟨rfl, rfl⟩))
              go_roundw
              case rel => exact ⟨k + 1, s.hear, _, _, by omega, by go_num, rfl, rfl, HCN.out, HFIN.out.1, HFIN.out.2⟩
              case measure => simp [intOf]; omega
            | true =>
              have HCN := hide (cnt_hear_yes HN.out hhb)
              rw [hhb] at HA
              clear hhb
              go_wp2_with fail
              refine HA.out.mono ?_; rintro e w3 ⟨rfl, hl3, hg3⟩
              have hc2 := hg3.cell hc1 (by have := HWA.out; simp; omega)
              have hb3 := below_grown HB.out hg3 HSZ.out HWA.out
              have C1 := hide (led_out w3 ga _ hl3)
              have C2 := hide (led_marked w3 ga _ hl3)
              have C3 := hide (led_spent w3 ga _ hl3)
              rw [← HCN.out.2.2.2.1] at C1
              rw [← HCN.out.2.2.2.2] at C2
              rw [HCN.out.2.1] at C3
              have HFIN := hide (And.intro hl3 hb3)
              clear hc1 hg3 hl3 hb3
              go_wp2_with (first
                | (go_at_call 32; refine C1.out.mono ?_; rintro e w' ⟨rfl, rfl⟩)
                | (go_at_call 33; refine C2.out.mono ?_; rintro e w' ⟨rfl, rfl⟩)
                | (go_at_call 34; refine C3.out.mono ?_; rintro e w' ⟨rfl, rfl⟩))
              go_roundw
              case rel => exact ⟨k + 1, s.hear, _, _, by omega, by go_num, rfl, rfl, HCN.out, HFIN.out.1, HFIN.out.2⟩
              case measure => simp [intOf]; omega
          · clear h3
            have HCN := hide (cnt_set HN.out)
            go_wp2_with fail
            refine (led_mark wr ga s HL.out).mono ?_; rintro e w3 ⟨rfl, hl3, hg3⟩
            have hb3 := below_grown HB.out hg3 HSZ.out HWA.out
            have C1 := hide (led_out w3 ga _ hl3)
            have C2 := hide (led_marked w3 ga _ hl3)
            have C3 := hide (led_spent w3 ga _ hl3)
            rw [← HCN.out.2.2.2.1] at C1
            rw [← HCN.out.2.2.2.2] at C2
            rw [HCN.out.2.1] at C3
            have HFIN := hide (And.intro hl3 hb3)
            clear hc1 hg3 hl3 hb3
            go_wp2_with (first
              | (go_at_call 32; refine C1.out.mono ?_; rintro e w' ⟨rfl, rfl⟩)
              | (go_at_call 33; refine C2.out.mono ?_; rintro e w' ⟨rfl, rfl⟩)
              | (go_at_call 34; refine C3.out.mono ?_; rintro e w' ⟨rfl, rfl⟩))
            go_roundw
            case rel => exact ⟨k + 1, s.set, _, _, by omega, by go_num, rfl, rfl, HCN.out, HFIN.out.1, HFIN.out.2⟩
            case measure => simp [intOf]; omega
          · have C1 := hide (led_out wr ga _ HL.out)
            have C2 := hide (led_marked wr ga _ HL.out)
            have C3 := hide (led_spent wr ga _ HL.out)
            rw [← HN.out.2.2.2.1] at C1
            rw [← HN.out.2.2.2.2] at C2
            rw [HN.out.2.1] at C3
            go_wp2_with (first
              | (go_at_call 32; refine C1.out.mono ?_; rintro e w' ⟨rfl, rfl⟩)
              | (go_at_call 33; refine C2.out.mono ?_; rintro e w' ⟨rfl, rfl⟩)
              | (go_at_call 34; refine C3.out.mono ?_; rintro e w' ⟨rfl, rfl⟩))
            go_roundw
            case rel => exact ⟨k + 1, s, _, _, by omega, by go_num, rfl, rfl, cnt_next HN.out, HL.out, HB.out⟩
            case measure => simp [intOf]; omega
        · go_wp2_with fail
          refine (live17 _).mono ?_; rintro e w7 ⟨rfl, hb7⟩
          have hfin := below2 HB.out hb7 (Nat.le_refl _)
          go_wp2
          go_ret
          exact ⟨rfl, hfin⟩
end Go.Proofs.Ytcbbnddhihmafaa
