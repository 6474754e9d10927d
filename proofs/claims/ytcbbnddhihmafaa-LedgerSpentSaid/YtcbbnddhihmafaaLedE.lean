/- The law LedgerSpent, walked: it returns true and turns nothing that was there. No conditions. -/
import Derived.Test.YtcbbnddhihmafaaLedC
namespace Go.Proofs.Ytcbbnddhihmafaa
open Go.RowKit
set_option linter.unusedVariables false

/-- the last count. -/
def topN : Nat := 18446744073709551615
/-- the law's ledger behind k of its first acts. -/
def Led.sp (short k : Nat) : Led := ⟨topN - short + k, topN - short, topB (topN - short + k)⟩
theorem sp_new (short : Nat) : Led.new (topN - short) = Led.sp short 0 := rfl
theorem sp_ok {short k : Nat} (hs : short ≤ 20) (hk : k ≤ short) : (Led.sp short k).ok := by
  refine ⟨?_, ?_, rfl⟩
  · show topN - short + k ≤ _; unfold topN; omega
  · show topN - short ≤ _; unfold topN; omega
theorem sp_not {short k : Nat} (hs : short ≤ 20) (hk : k < short) : (Led.sp short k).spent = false := topB_lt (by unfold topN; omega)
theorem sp_ask {short k : Nat} (hs : short ≤ 20) (hk : k < short) : (Led.sp short k).ask = Led.sp short (k + 1) ∧ (Led.sp short k).askB = true := by
  have h := sp_not hs hk
  refine ⟨?_, by unfold Led.askB; rw [h]; rfl⟩
  unfold Led.ask
  rw [h]; rfl
theorem sp_top {short : Nat} (hs : short ≤ 20) : topN - short + short = topN := by unfold topN; omega
theorem sp_end {short : Nat} (hs : short ≤ 20) : (Led.sp short short).spent = true := by
  show topB (topN - short + short) = true
  rw [sp_top hs]; exact (topB_iff _).2 rfl
theorem sp_out {short : Nat} (hs : short ≤ 20) : (((Led.sp short short).out : Nat) : Int) = 18446744073709551615 := by
  show ((topN - short + short : Nat) : Int) = _
  rw [sp_top hs]; rfl
theorem spent_all {s : Led} (h : s.spent = true) : s.ask = s ∧ s.askB = false ∧ s.hear = s ∧ s.hearB = false ∧ s.set = s ∧ ∀ k, s.enough k = false := by
  have hb : s.hearB = false := by unfold Led.hearB; rw [h]; rfl
  refine ⟨by unfold Led.ask; rw [h]; rfl, by unfold Led.askB; rw [h]; rfl, by unfold Led.hear; rw [hb]; rfl, hb, by unfold Led.set; rw [h]; rfl, fun k => by unfold Led.enough; rw [h]; rfl⟩

/-! ### nobody's ledger, and one that was not made -/
theorem nil_spent (w : World) : Calls Try.prog 34 #[.pointer none] w fun e w' => e = .returned (.bool true) ∧ w = w' := by
  go_enter Try.func34, Try.ntmps34
  go_wp2
  go_ret
  exact ⟨rfl, rfl⟩
theorem nil_out (w : World) : Calls Try.prog 32 #[.pointer none] w fun e w' => e = .returned (.int .u64 0) ∧ w = w' := by
  go_enter Try.func32, Try.ntmps32
  go_wp2
  go_ret
  exact ⟨rfl, rfl⟩
theorem not_spent (g : Nat) (w : World) (h : w.cell? ⟨g, 0, none⟩ = some (.bool false)) : Calls Try.prog 34 #[.pointer (some ⟨g, 0, none⟩)] w fun e w' => e = .returned (.bool true) ∧ w = w' := by
  go_enter Try.func34, Try.ntmps34
  go_wp2
  go_ret
  exact ⟨rfl, rfl⟩
section
variable (p : Option Addr) (w : World) (h : Calls Try.prog 34 #[.pointer p] w fun e w' => e = .returned (.bool true) ∧ w = w')
include h
theorem off_ask : Calls Try.prog 37 #[.pointer p] w fun e w' => e = .returned (.bool false) ∧ w = w' := by
  have H := hide h
  clear h
  go_enter Try.func37, Try.ntmps37
  go_wp2_with (first | (go_at_call 34; refine H.out.mono ?_; rintro e w' ⟨rfl, rfl⟩) | go_in)
  go_ret
  exact ⟨rfl, rfl⟩
theorem off_hear : Calls Try.prog 39 #[.pointer p] w fun e w' => e = .returned (.bool false) ∧ w = w' := by
  have H := hide h
  clear h
  go_enter Try.func39, Try.ntmps39
  go_wp2_with (first | (go_at_call 34; refine H.out.mono ?_; rintro e w' ⟨rfl, rfl⟩) | go_in)
  go_ret
  exact ⟨rfl, rfl⟩
theorem off_enough (k : Int) : Calls Try.prog 35 #[.pointer p, .int .u64 k] w fun e w' => e = .returned (.bool false) ∧ w = w' := by
  have H := hide h
  clear h
  go_enter Try.func35, Try.ntmps35
  go_wp2_with (first | (go_at_call 34; refine H.out.mono ?_; rintro e w' ⟨rfl, rfl⟩) | go_in)
  go_ret
  exact ⟨rfl, rfl⟩
end

/-- what each call tells of a ledger that is spent: all as it was. -/
structure Told (w : World) (g : Nat) (m : Int) : Prop where
  spent : Calls Try.prog 34 #[.pointer (some ⟨g, 0, none⟩)] w fun e w' => e = .returned (.bool true) ∧ w = w'
  out : Calls Try.prog 32 #[.pointer (some ⟨g, 0, none⟩)] w fun e w' => e = .returned (.int .u64 18446744073709551615) ∧ w = w'
  marked : Calls Try.prog 33 #[.pointer (some ⟨g, 0, none⟩)] w fun e w' => e = .returned (.int .u64 m) ∧ w = w'
  enough : ∀ k : Int, Calls Try.prog 35 #[.pointer (some ⟨g, 0, none⟩), .int .u64 k] w fun e w' => e = .returned (.bool false) ∧ w = w'
theorem told_of {w : World} {g : Nat} {s : Led} (h : LedAt w g s) (hs : s.spent = true) (ho : ((s.out : Nat) : Int) = 18446744073709551615) : Told w g (s.mark : Int) := by
  have h1 := led_spent w g s h
  rw [hs] at h1
  have h2 := led_out w g s h
  rw [ho] at h2
  refine ⟨h1, h2, led_marked w g s h, fun k => ?_⟩
  have h3 := led_enough w g s k h
  rwa [(spent_all hs).2.2.2.2.2 k] at h3

set_option maxRecDepth 100000 in
set_option maxHeartbeats 4000000 in
theorem walk_LedgerSpent (w : World) (short : Nat) (hshort : short < 18446744073709551616) (a : Option Addr) (c : Nat) (l : List Int) (hi : InI w a c l) (n : Nat) (hn : n < 18446744073709551616) :
    Calls Try.prog 9 #[.int .u64 (short : Int), .slice a l.length c, .int .u64 (n : Int)] w fun e w' => e = .returned (.bool true) ∧ Below w.heap.size w w' := by
  have hll := hi.reach
  have HI := hide hi.rd
  clear hshort hn hi
  by_cases hout : 20 < short ∨ 200 < l.length
  · rcases (show 20 < (short : Int) ∨ ((short : Int) ≤ 20 ∧ 200 < (l.length : Int)) by omega) with h1 | ⟨h1, h2⟩
    all_goals
      clear hout
      go_enter Try.func9, Try.ntmps9
      go_wp2_with (go_at_call 29; refine (live17 _).mono ?_; rintro e w' ⟨rfl, hb⟩)
      go_ret
      exact ⟨rfl, hb⟩
  · have hs20 : short ≤ 20 := by omega
    have hd1 : decide ((20 : Int) < (short : Int)) = false := by simp; omega
    have hd2 : decide ((200 : Int) < (l.length : Int)) = false := by simp; omega
    have h1 : (short : Int) ≤ 20 := by omega
    have h2 : (l.length : Int) ≤ 200 := by omega
    have HS := hide hs20
    clear hout hs20
    go_enter Try.func9, Try.ntmps9
    go_wp2_with fail
    refine (led_new_any _ (topN - short) (by have := HS.out; unfold topN; first | omega | (rw [IntKind.wrap_u64]; omega)) w).mono ?_; rintro e w1 ⟨rfl, ha, hb1⟩
    rw [sp_new] at ha
    obtain ⟨ga, hga⟩ : ∃ ga, ga = w.heap.size := ⟨_, rfl⟩
    have HWA : Hid (w.heap.size ≤ ga) := by show w.heap.size ≤ ga; omega
    rw [← hga] at ha
    rw [← hga]
    clear hga
    go_wp2_with fail
    go_loopw [8] (fun i wr => ∃ k : Nat, k ≤ short ∧ i = .int .u64 k ∧ LedAt wr ga (Led.sp short k) ∧ Below w.heap.size w wr) (fun i _ => short - (intOf i).toNat)
    case atStart => exact ⟨0, Nat.zero_le _, rfl, ha, hb1⟩
    case round =>
      obtain ⟨k, hk, rfl, hla, hb⟩ := hrel
      clear ha hb1
      have HL := hide hla
      have HB := hide hb
      clear hla hb
      by_cases hks : k < short
      · have C1 := led_spent wr ga _ HL.out
        rw [sp_not HS.out hks] at C1
        have C2 := led_ask wr ga _ HL.out (sp_ok HS.out hk)
        rw [(sp_ask HS.out hks).1, (sp_ask HS.out hks).2] at C2
        have D1 := hide C1
        have D2 := hide C2
        clear C1 C2
        go_wp2_with fail
        refine D1.out.mono ?_; rintro e w' ⟨rfl, rfl⟩
        go_wp2_with fail
        refine D2.out.mono ?_; rintro e w3 ⟨rfl, hl3, hg3⟩
        have hb3 := below_grown HB.out hg3 HB.out.size HWA.out
        have HFIN := hide (And.intro hl3 hb3)
        clear hl3 hg3 hb3
        go_wp2
        go_roundw
        case rel => exact ⟨k + 1, by omega, by go_num, HFIN.out⟩
        case measure => simp [intOf]; omega
      · have hks' : k = short := by omega
        rw [hks'] at HL
        obtain ⟨s, hs⟩ : ∃ s, s = Led.sp short short := ⟨_, rfl⟩
        have hsp : s.spent = true := by rw [hs]; exact sp_end HS.out
        have hso : ((s.out : Nat) : Int) = 18446744073709551615 := by rw [hs]; exact sp_out HS.out
        have hsk : s.ok := by rw [hs]; exact sp_ok HS.out (Nat.le_refl _)
        rw [← hs] at HL
        have HALL := hide (spent_all hsp)
        have HOK := hide hsk
        have HT := hide (fun (W : World) (hW : LedAt W ga s) => told_of hW hsp hso)
        obtain ⟨m, hm⟩ : ∃ m : Int, m = (s.mark : Int) := ⟨_, rfl⟩
        rw [← hm] at HT
        clear hs hsp hso hsk hm hks'
        have T0 := hide (HT.out wr HL.out)
        have hks2 : (short : Int) ≤ (k : Int) := by omega
        clear hks
        go_wp2_with fail
        refine T0.out.out.mono ?_; rintro e w' ⟨rfl, rfl⟩
        go_wp2_with fail
        refine T0.out.marked.mono ?_; rintro e w' ⟨rfl, rfl⟩
        go_wp2_with fail
        refine T0.out.spent.mono ?_; rintro e w' ⟨rfl, rfl⟩
        go_wp2_with fail
        obtain ⟨w0, hw0⟩ : ∃ w0, w0 = wr := ⟨_, rfl⟩
        go_loopw [11] (fun i wi => ∃ j : Nat, j ≤ l.length ∧ i = .int .i64 j ∧ LedAt wi ga s ∧ Below w.heap.size w wi) (fun i _ => l.length - (intOf i).toNat)
        case atStart => exact ⟨0, Nat.zero_le _, rfl, HL.out, HB.out⟩
        case round =>
          obtain ⟨j, hj, rfl, hlj, hbj⟩ := hrel
          clear hw0 T0 HL HB
          have HL := hide hlj
          have HB := hide hbj
          clear hlj hbj
          by_cases hjl : j < l.length
          · have hg1 : (j : Int) < (l.length : Int) := by omega
            obtain ⟨x, hx⟩ : ∃ x, l[j]? = some x := ⟨_, List.getElem?_eq_getElem hjl⟩
            obtain ⟨b1, o1, rfl, hbb, hc1⟩ := (HI.out.below HB.out (Nat.le_refl _)).at_ (i64s_get hx)
            clear hx
            rcases act_cases x with ⟨q1, rfl⟩ | ⟨q1, q2, rfl⟩ | ⟨q1, q2, q3, rfl⟩ | ⟨q1, q2, q3⟩
            · clear q1
              have C2 := led_ask wr ga _ HL.out HOK.out
              rw [HALL.out.1, HALL.out.2.1] at C2
              have D2 := hide C2
              clear C2
              go_wp2_with fail
              refine D2.out.mono ?_; rintro e w3 ⟨rfl, hl3, hg3⟩
              have hc2 := hg3.cell hc1 (by have := HWA.out; simp; omega)
              have HFIN := hide (And.intro hl3 (below_grown HB.out hg3 HB.out.size HWA.out))
              clear hc1 hl3 hg3
              go_wp2
              go_roundw
              case rel => exact ⟨j + 1, by omega, by go_num, HFIN.out⟩
              case measure => simp [intOf]; omega
            · clear q2
              have C2 := led_hear wr ga _ HL.out HOK.out
              rw [HALL.out.2.2.1, HALL.out.2.2.2.1] at C2
              have D2 := hide C2
              clear C2
              go_wp2_with fail
              refine D2.out.mono ?_; rintro e w3 ⟨rfl, hl3, hg3⟩
              have hc2 := hg3.cell hc1 (by have := HWA.out; simp; omega)
              have HFIN := hide (And.intro hl3 (below_grown HB.out hg3 HB.out.size HWA.out))
              clear hc1 hl3 hg3
              go_wp2
              go_roundw
              case rel => exact ⟨j + 1, by omega, by go_num, HFIN.out⟩
              case measure => simp [intOf]; omega
            · clear q3
              have C2 := led_mark wr ga _ HL.out
              rw [HALL.out.2.2.2.2.1] at C2
              have D2 := hide C2
              clear C2
              go_wp2_with fail
              refine D2.out.mono ?_; rintro e w3 ⟨rfl, hl3, hg3⟩
              have HFIN := hide (And.intro hl3 (below_grown HB.out hg3 HB.out.size HWA.out))
              clear hc1 hl3 hg3
              go_wp2
              go_roundw
              case rel => exact ⟨j + 1, by omega, by go_num, HFIN.out⟩
              case measure => simp [intOf]; omega
            · go_wp2
              go_roundw
              case rel => exact ⟨j + 1, by omega, by go_num, HL.out, HB.out⟩
              case measure => simp [intOf]; omega
          · obtain ⟨wy, hwy⟩ : ∃ wy : World, wy = wr.alloc (.cells #[.bool false, .int .u64 0, .int .u64 0, .bool false] 52) := ⟨_, rfl⟩
            have hly : LedAt wy ga s := by rw [hwy]; exact Blk.alloc HL.out _
            have hby : Below w.heap.size w wy := by rw [hwy]; exact HB.out.alloc HB.out.size _
            have hcy : wy.cell? ⟨wr.heap.size, 0, none⟩ = some (.bool false) := by rw [hwy]; exact Blk.cell (Blk.new wr _ [.bool false, .int .u64 0, .int .u64 0, .bool false]) rfl
            have T1 := hide (HT.out wy hly)
            have Y := hide (not_spent _ wy hcy)
            have HBY := hide hby
            have Z := hide (nil_spent wy)
            obtain ⟨gy, hgy⟩ : ∃ gy, gy = wr.heap.size := ⟨_, rfl⟩
            rw [← hgy] at Y
            clear hly hby hcy
            go_wp2_with fail
            rw [← hwy, ← hgy]
            clear hwy hgy
            refine T1.out.spent.mono ?_; rintro e w' ⟨rfl, rfl⟩
            go_wp2_with fail
            refine T1.out.out.mono ?_; rintro e w' ⟨rfl, rfl⟩
            go_wp2_with fail
            refine T1.out.marked.mono ?_; rintro e w' ⟨rfl, rfl⟩
            go_wp2_with fail
            refine (T1.out.enough _).mono ?_; rintro e w' ⟨rfl, rfl⟩
            go_wp2_with fail
            refine Z.out.mono ?_; rintro e w' ⟨rfl, rfl⟩
            go_wp2_with fail
            refine (off_ask _ _ Z.out).mono ?_; rintro e w' ⟨rfl, rfl⟩
            go_wp2_with fail
            refine (off_hear _ _ Z.out).mono ?_; rintro e w' ⟨rfl, rfl⟩
            go_wp2_with fail
            refine (off_enough _ _ Z.out _).mono ?_; rintro e w' ⟨rfl, rfl⟩
            go_wp2_with fail
            refine (nil_out _).mono ?_; rintro e w' ⟨rfl, rfl⟩
            go_wp2_with fail
            refine Y.out.mono ?_; rintro e w' ⟨rfl, rfl⟩
            go_wp2_with fail
            refine (off_ask _ _ Y.out).mono ?_; rintro e w' ⟨rfl, rfl⟩
            go_wp2_with fail
            refine (off_enough _ _ Y.out _).mono ?_; rintro e w' ⟨rfl, rfl⟩
            go_wp2_with fail
            refine (live17 _).mono ?_; rintro e w7 ⟨rfl, hb7⟩
            have hfin := below2 HBY.out hb7 (Nat.le_refl _)
            go_wp2
            go_ret
            exact ⟨rfl, hfin⟩
end Go.Proofs.Ytcbbnddhihmafaa
