/- The law LedgerDoes, walked: it returns true and turns nothing that was there. No conditions. -/
import Derived.Test.YtcbbnddhihmafaaLedB
import Derived.Test.YtcbbnddhihmafaaIn
namespace Go.Proofs.Ytcbbnddhihmafaa
open Go.RowKit
set_option linter.unusedVariables false

theorem quietC {P : Program} {f : FuncId} {args : Array Value} {w : World} {n : Nat} {v : Value} (h : Calls P f args (w.drewN n) fun e w' => e = .returned v ∧ w.drewN n = w') :
    Calls P f args (w.drewN n) fun e w'' => e = .returned v ∧ ∃ m, w'' = w.drewN m := h.mono fun _ _ ⟨he, hw⟩ => ⟨he, n, hw.symm⟩

theorem led_new_any (k : Int) (n : Nat) (hk : k = (n : Int)) (w : World) : Calls Try.prog 30 #[.int .u64 k] w fun e w' => e = .returned (.pointer (some ⟨w.heap.size, 0, none⟩)) ∧ LedAt w' w.heap.size (Led.new n) ∧ Below w.heap.size w w' := by subst hk; exact led_new n w

theorem live17 (w : World) : Calls Try.prog 29 #[] w fun e w' => e = .returned (.bool true) ∧ Below w.heap.size w w' := by
  go_enter Try.func29, Try.ntmps29
  go_wp2_with fail
  refine (led_new_any 2 2 rfl w).mono ?_; rintro e w1 ⟨rfl, ha, hb1⟩
  have hlt := ha.lt
  go_wp2_with fail
  refine (led_new_any _ 18446744073709551614 rfl w1).mono ?_; rintro e w2 ⟨rfl, hb, hb2⟩
  have ha2 : LedAt w2 w.heap.size (Led.new 2) := Blk.on ha hb2
  have HB2 := hide (below2 hb1 hb2 (Nat.le_refl _))
  have HS := hide hb1.size
  clear hb1 hb2 ha
  have E1 := hide (led_enough w2 w.heap.size (Led.new 2) 2 ha2)
  have E2 := hide (led_enough w2 w.heap.size (Led.new 2) 3 ha2)
  rw [show (Led.new 2).enough 2 = false by decide +kernel] at E1
  rw [show (Led.new 2).enough 3 = true by decide +kernel] at E2
  have E3 := hide (led_ask w2 w1.heap.size _ hb (Led.ok_new _ (by omega)))
  rw [show (Led.new 18446744073709551614).askB = true by decide +kernel] at E3
  clear ha2 hb
  go_wp2_with fail
  refine E1.out.mono ?_; rintro e w' ⟨rfl, rfl⟩
  go_wp2_with fail
  refine E2.out.mono ?_; rintro e w' ⟨rfl, rfl⟩
  go_wp2_with fail
  refine E3.out.mono ?_; rintro e w3 ⟨rfl, hl3, hg3⟩
  have E4 := hide (led_spent w3 _ _ hl3)
  rw [show (Led.new 18446744073709551614).ask.spent = true by decide +kernel] at E4
  have E5 := hide (led_enough w3 _ _ 18446744073709551615 hl3)
  rw [show (Led.new 18446744073709551614).ask.enough 18446744073709551615 = false by decide +kernel] at E5
  have HB3 := hide (below_grown HB2.out hg3 HB2.out.size HS.out)
  clear hl3 hg3
  go_wp2_with fail
  refine E4.out.mono ?_; rintro e w' ⟨rfl, rfl⟩
  go_wp2_with fail
  refine E5.out.mono ?_; rintro e w' ⟨rfl, rfl⟩
  go_wp2
  go_ret
  exact ⟨rfl, HB3.out⟩

/-- a number among acts. -/
theorem act_cases (x : Int) : ((x == 0) = true ∧ x = 0) ∨ ((x == 0) = false ∧ (x == 1) = true ∧ x = 1) ∨ ((x == 0) = false ∧ (x == 1) = false ∧ (x == 2) = true ∧ x = 2) ∨ ((x == 0) = false ∧ (x == 1) = false ∧ (x == 2) = false) := by
  simp only [beq_iff_eq, beq_eq_false_iff_ne]; omega

set_option maxRecDepth 100000 in
set_option maxHeartbeats 4000000 in
theorem walk_LedgerDoes (w : World) (out : Nat) (hout : out < 18446744073709551616) (a : Option Addr) (c : Nat) (l : List Int) (hi : InI w a c l) (n : Nat) (hn : n < 18446744073709551616) :
    Calls Try.prog 7 #[.int .u64 (out : Int), .slice a l.length c, .int .u64 (n : Int)] w fun e w' => e = .returned (.bool true) ∧ Below w.heap.size w w' := by
  have hll := hi.reach
  have HI := hide hi.rd
  have HOK := hide (Led.ok_new out (by omega))
  clear hout hn
  by_cases hlen : 200 < l.length
  · clear hi
    go_enter Try.func7, Try.ntmps7
    go_wp2_with (go_at_call 29; refine (live17 _).mono ?_; rintro e w' ⟨rfl, hb⟩)
    go_ret
    exact ⟨rfl, hb⟩
  · clear hi
    go_enter Try.func7, Try.ntmps7
    go_wp2_with fail
    refine (led_new out w).mono ?_; rintro e w1 ⟨rfl, ha, hb1⟩
    have hlt := ha.lt
    go_wp2_with fail
    refine (rled_new out w1).mono ?_; rintro e w2 ⟨rfl, hr, hb2⟩
    have ha2 : LedAt w2 w.heap.size (Led.new out) := Blk.on ha hb2
    have hB2 := below2 hb1 hb2 (Nat.le_refl _)
    obtain ⟨ga, hga⟩ : ∃ ga, ga = w.heap.size := ⟨_, rfl⟩
    obtain ⟨gr, hgr⟩ : ∃ gr, gr = w1.heap.size := ⟨_, rfl⟩
    rw [← hga] at ha2 hlt
    rw [← hgr] at hr hlt
    have hwa : w.heap.size ≤ ga := by omega
    rw [← hga, ← hgr]
    clear hga hgr hb1 hb2 ha
    have HWA := hide hwa
    have hne : ga ≠ gr := by omega
    clear hwa
    go_wp2_with fail
    go_loopw [9] (fun i wr => ∃ (k : Nat) (s : Led), k ≤ l.length ∧ i = .int .i64 k ∧ s.ok ∧ LedAt wr ga s ∧ RLedAt wr gr s ∧ Below w.heap.size w wr) (fun i _ => l.length + 1 - (intOf i).toNat)
    case atStart => exact ⟨0, Led.new out, Nat.zero_le _, rfl, HOK.out, ha2, hr, hB2⟩
    case round =>
      obtain ⟨k, s, hk, rfl, hok, hla, hlr, hb⟩ := hrel
      clear ha2 hr hB2
      have HO := hide hok
      have HL := hide hla
      have HR := hide hlr
      have HB := hide hb
      have r0 := hlr.c0
      have r1 := hlr.c1
      have r2 := hlr.c2
      have hE : s.enough (s.mark : Int) = false := by unfold Led.enough; simp
      clear hok hla hlr hb
      go_wp2
      go_quiet (first
        | (go_at_call 32; exact quietC (led_out _ ga s (Blk.drewN HL.out _)))
        | (go_at_call 33; exact quietC (led_marked _ ga s (Blk.drewN HL.out _)))
        | (go_at_call 34; exact quietC (led_spent _ ga s (Blk.drewN HL.out _)))
        | (go_at_call 35; exact quietC (led_enough _ ga s _ (Blk.drewN HL.out _)))
        | (go_at_call 36; exact quietC (rled_enough _ gr s _ (Blk.drewN HR.out _))))
      have HQL : Hid (LedAt (wr.drewN nq) ga s) := Blk.drewN HL.out nq
      have HQR : Hid (RLedAt (wr.drewN nq) gr s) := Blk.drewN HR.out nq
      have HQB := hide (below_drewN HB.out nq)
      clear hE r0 r1 r2 HL HR HB
      obtain ⟨wq, hwq⟩ : ∃ wq, wq = wr.drewN nq := ⟨_, rfl⟩
      rw [← hwq] at HQL HQR HQB
      rw [← hwq]
      clear hwq
      by_cases hend : k = l.length
      · subst hend
        have hz : (((l.length : Nat) : Int) == ((l.length : Nat) : Int)) = true := by simp
        go_wp2_with fail
        refine (live17 _).mono ?_; rintro e w7 ⟨rfl, hb7⟩
        have hfin := below2 HQB.out hb7 (Nat.le_refl _)
        go_wp2
        go_ret
        exact ⟨rfl, hfin⟩
      · have hz : (((k : Nat) : Int) == ((l.length : Nat) : Int)) = false := by simp; omega
        have hkl : k < l.length := by omega
        have hg1 : (k : Int) < (l.length : Int) := by omega
        obtain ⟨x, hx⟩ : ∃ x, l[k]? = some x := ⟨_, List.getElem?_eq_getElem hkl⟩
        obtain ⟨b1, o1, rfl, hbb, hc1⟩ := (HI.out.below HQB.out (Nat.le_refl _)).at_ (i64s_get hx)
        clear hx
        have HSZ := hide HQB.out.size
        rcases act_cases x with ⟨h1, rfl⟩ | ⟨h1, h2, rfl⟩ | ⟨h1, h2, h3, rfl⟩ | ⟨h1, h2, h3⟩
        · clear h1
          go_wp2_with fail
          refine (led_ask wq ga s HQL.out HO.out).mono ?_; rintro e w3 ⟨rfl, hl3, hg3⟩
          have hr3 : RLedAt w3 gr s := Blk.grown HQR.out hg3 (by simp; omega)
          go_wp2_with fail
          refine (rled_ask w3 gr s hr3 HO.out).mono ?_; rintro e w4 ⟨rfl, hr4, hg4⟩
          have hl4 : LedAt w4 ga s.ask := Blk.grown hl3 hg4 (by simp; omega)
          have hb4 := below_grown (below_grown HQB.out hg3 HSZ.out HWA.out) hg4 (Nat.le_trans HSZ.out hg3.size) (by have := HWA.out; omega)
          have HFIN := hide (And.intro (Led.ok_ask HO.out) (And.intro hl4 (And.intro hr4 hb4)))
          clear hl3 hg3 hr3 hr4 hg4 hl4 hb4
          go_wp2
          go_roundw
          case rel => exact ⟨k + 1, s.ask, by omega, by go_num, HFIN.out⟩
          case measure => simp [intOf]; omega
        · clear h2
          go_wp2_with fail
          refine (led_hear wq ga s HQL.out HO.out).mono ?_; rintro e w3 ⟨rfl, hl3, hg3⟩
          have hr3 : RLedAt w3 gr s := Blk.grown HQR.out hg3 (by simp; omega)
          go_wp2_with fail
          refine (rled_hear w3 gr s hr3 HO.out).mono ?_; rintro e w4 ⟨rfl, hr4, hg4⟩
          have hl4 : LedAt w4 ga s.hear := Blk.grown hl3 hg4 (by simp; omega)
          have hb4 := below_grown (below_grown HQB.out hg3 HSZ.out HWA.out) hg4 (Nat.le_trans HSZ.out hg3.size) (by have := HWA.out; omega)
          have HFIN := hide (And.intro (Led.ok_hear HO.out) (And.intro hl4 (And.intro hr4 hb4)))
          clear hl3 hg3 hr3 hr4 hg4 hl4 hb4
          go_wp2
          go_roundw
          case rel => exact ⟨k + 1, s.hear, by omega, by go_num, HFIN.out⟩
          case measure => simp [intOf]; omega
        · clear h3
          go_wp2_with fail
          refine (led_mark wq ga s HQL.out).mono ?_; rintro e w3 ⟨rfl, hl3, hg3⟩
          have hr3 : RLedAt w3 gr s := Blk.grown HQR.out hg3 (by simp; omega)
          go_wp2_with fail
          refine (rled_set w3 gr s hr3).mono ?_; rintro e w4 ⟨rfl, hr4, hg4⟩
          have hl4 : LedAt w4 ga s.set := Blk.grown hl3 hg4 (by simp; omega)
          have hb4 := below_grown (below_grown HQB.out hg3 HSZ.out HWA.out) hg4 (Nat.le_trans HSZ.out hg3.size) (by have := HWA.out; omega)
          have HFIN := hide (And.intro (Led.ok_set HO.out) (And.intro hl4 (And.intro hr4 hb4)))
          clear hl3 hg3 hr3 hr4 hg4 hl4 hb4
          go_wp2
          go_roundw
          case rel => exact ⟨k + 1, s.set, by omega, by go_num, HFIN.out⟩
          case measure => simp [intOf]; omega
        · go_wp2
          go_roundw
          case rel => exact ⟨k + 1, s, by omega, by go_num, HO.out, HQL.out, HQR.out, HQB.out⟩
          case measure => simp [intOf]; omega
end Go.Proofs.Ytcbbnddhihmafaa
