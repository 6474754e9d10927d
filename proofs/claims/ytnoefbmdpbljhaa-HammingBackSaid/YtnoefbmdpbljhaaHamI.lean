/- Layer 10's reference: Pack, by what it computes. No conditions. -/
import Derived.Test.YtnoefbmdpbljhaaHamH
import Derived.Deep.RegionHeld3
namespace Go.Proofs.Ytnoefbmdpbljhaa
open Go.RowKit
set_option linter.unusedVariables false

theorem rpack_long (A : Option Addr) (c : Nat) (l : List Nat) (hl : 4096 < l.length) (w : World) : Calls Try.prog 22 #[.slice A l.length c] w (New8 [] w) := by
  go_enter Try.func22, Try.ntmps22
  go_wp2
  go_ret
  exact ⟨none, 0, rfl, World.ownsRow_nil _ _ _ _, Below.refl _ _⟩
theorem rword_at (X : Int) (x : Nat) (hX : X = (x : Int)) (hx : x < 16) (w : World) : Calls Try.prog 12 #[.int .i64 X] w fun e w' => e = .returned (.int .i64 (Hm.word x : Nat)) ∧ w = w' := by
  subst hX
  have h := rword_any x hx w
  rw [← show Hm.word x = Hm.rword x from Hm.words ⟨x, hx⟩] at h
  exact h
set_option maxRecDepth 100000 in
set_option maxHeartbeats 2000000 in
theorem rpack_any (A : Option Addr) (c : Nat) (l : List Nat) (hl : l.length ≤ 4096) (hb : Byt l) (w : World) (hA : Rd w.heap.size w A (u8s l)) :
    Calls Try.prog 22 #[.slice A l.length c] w (New8 (Hm.pack l) w) := by
  obtain ⟨i0, hi, hz0, hz1, hz2⟩ := info_parts Try.inf8
  have HA := hide hA
  have HBy := hide hb
  clear hA hb
  go_enter Try.func22, Try.ntmps22
  go_wp2
  go_loopw [3, 4] (fun v i wr => ∃ k : Nat, k ≤ l.length ∧ i = .int .i64 k ∧ wr.ownsRow w.heap.size 5 1 v (Hm.pack (l.take k)).length (u8s (Hm.pack (l.take k))) ∧ Below w.heap.size w wr) (fun _ i _ => l.length - (intOf i).toNat)
  case atStart => exact ⟨0, Nat.zero_le _, rfl, World.ownsRow_nil _ _ _ _, Below.refl _ _⟩
  case round =>
    obtain ⟨k, hk, rfl, hownr, hb⟩ := hrel
    by_cases hlt : k < l.length
    · obtain ⟨x, hx⟩ : ∃ x, l[k]? = some x := ⟨_, List.getElem?_eq_getElem hlt⟩
      obtain ⟨b1, o1, rfl, hbb, hc1⟩ := (HA.out.below hb (Nat.le_refl _)).at_ (u8s_get hx)
      have hx256 : x < 256 := HBy.out.at_ hx
      have HP : Hid (Hm.pack (l.take (k + 1)) = Hm.pack (l.take k) ++ [Hm.word (x / 16), Hm.word (x % 16)]) := Hm.pack_take l hx
      have hpl : (Hm.pack (l.take k)).length ≤ 8192 := by rw [Hm.pack_length, List.length_take]; omega
      have HW1 := hide (fun X h W => rword_at X (x / 16) h (by omega) W)
      have HW2 := hide (fun X h W => rword_at X (x % 16) h (by omega) W)
      have l1 : Hm.word (x / 16) < 256 := Hm.word_lt ⟨x / 16, by omega⟩
      have l2 : Hm.word (x % 16) < 256 := Hm.word_lt ⟨x % 16, by omega⟩
      obtain ⟨p, hp⟩ : ∃ p, p = Hm.pack (l.take k) := ⟨_, rfl⟩
      rw [← hp] at hownr hpl HP
      obtain ⟨y1, hy1⟩ : ∃ y, y = Hm.word (x / 16) := ⟨_, rfl⟩
      obtain ⟨y2, hy2⟩ : ∃ y, y = Hm.word (x % 16) := ⟨_, rfl⟩
      rw [← hy1] at HW1 HP l1
      rw [← hy2] at HW2 HP l2
      have hw64 : IntKind.i64.wrap (x : Int) = (x : Int) := i64_wrap_nat x (by omega)
      have HX16 : Hid (IntKind.i64.wrap ((IntKind.i64.wrap (x : Int)).tdiv 16) = ((x / 16 : Nat) : Int)) := by
        show _ = _
        rw [hw64, Int.tdiv_eq_ediv_of_nonneg (by omega)]
        exact i64_wrap_nat (x / 16) (by omega)
      have HX15 : Hid ((IntKind.i64.wrap (x : Int)).tmod 16 = ((x % 16 : Nat) : Int)) := by
        show _ = _
        rw [hw64, Int.tmod_eq_emod_of_nonneg (by omega)]
        omega
      have hB := hb.size
      have g0 : (0 : Int) ≤ (k : Int) := by omega
      have g3 : (k : Int) < (l.length : Int) := by omega
      clear hp hy1 hy2 hx hw64
      have HU1 : Hid (IntKind.u8.wrap (y1 : Int) = (y1 : Int)) := by show _ = _; rw [IntKind.wrap_u8]; omega
      have HU2 : Hid (IntKind.u8.wrap (y2 : Int) = (y2 : Int)) := by show _ = _; rw [IntKind.wrap_u8]; omega
      have HOWN : Hid (((wr.alloc (.cells #[.int .u8 (IntKind.u8.wrap (y1 : Int)), .int .u8 (IntKind.u8.wrap (y2 : Int))] 5)).drew).ownsRow w.heap.size 5 1 u3 p.length (u8s p)) := hownr.alloc _
      have HB1 : Hid (Below w.heap.size wr ((wr.alloc (.cells #[.int .u8 (IntKind.u8.wrap (y1 : Int)), .int .u8 (IntKind.u8.wrap (y2 : Int))] 5)).drew)) := ((Below.refl _ _).alloc hB _).drew
      have HBS : Hid (w.heap.size ≤ ((wr.alloc (.cells #[.int .u8 (IntKind.u8.wrap (y1 : Int)), .int .u8 (IntKind.u8.wrap (y2 : Int))] 5)).drew).heap.size) := Nat.le_trans hB HB1.out.size
      have HRL : Hid (Rd (wr.heap.size + 1) ((wr.alloc (.cells #[.int .u8 (IntKind.u8.wrap (y1 : Int)), .int .u8 (IntKind.u8.wrap (y2 : Int))] 5)).drew) (some ⟨wr.heap.size, 0, none⟩) [.int .u8 (IntKind.u8.wrap (y1 : Int)), .int .u8 (IntKind.u8.wrap (y2 : Int))]) := rd_lit wr _ _
      have g1 : p.length + 2 ≤ 9223372036854775807 := by omega
      have g2 : (p.length + 2) * 1 ≤ 140737488355328 := by omega
      have HBB := hide hbb
      have HC1 := hide hc1
      have HBE := hide hb
      clear hownr l1 l2 hb
      go_wp2
      go_region_held3 (fun w' => w'.cell? ⟨b1, o1 + k, none⟩ = some (.int .u8 (x : Int))) (first | exact keep1 (below_app HB1.out HOWN.out hg1 HBS.out) HBB.out HC1.out | go_keep)
        ((first
          | (go_at_call 12; (with_reducible refine (HW1.out _ HX16.out _).mono ?_); rintro e w' ⟨rfl, rfl⟩)
          | (go_at_call 12; (with_reducible refine (HW2.out _ HX15.out _).mono ?_); rintro e w' ⟨rfl, rfl⟩)
          | (refine step_appN ((wr.alloc (.cells #[.int .u8 (IntKind.u8.wrap (y1 : Int)), .int .u8 (IntKind.u8.wrap (y2 : Int))] 5)).drew) (by rfl) (.tmp 14) (.tmp 31) 39 (by rfl) w.heap.size 5 i0 (.int .u8 0) 1 Try.underlying39 hi hz0 hz1 hz2 (by rfl) u3 p.length (u8s p) (by rfl) HOWN.out (some ⟨wr.heap.size, 0, none⟩) 2 (wr.heap.size + 1) 2 [.int .u8 (IntKind.u8.wrap (y1 : Int)), .int .u8 (IntKind.u8.wrap (y2 : Int))] (by rfl) (by rfl) HRL.out (by simp [Value.oneCell']) g1 g2 HBS.out ?_; intro v' w2 hown1 hg1 hat1)))
      go_wp2
      go_roundw
      case rel =>
        refine ⟨k + 1, by omega, by go_num, ?_, below_app (HBE.out.trans HB1.out) HOWN.out hg1 HBS.out⟩
        rw [HU1.out, HU2.out] at hown1
        rw [HP.out, u8s_app, List.length_append]
        exact hown1
      case measure => simp [intOf]; omega
    · obtain rfl : k = l.length := by omega
      go_wp2
      go_ret
      rw [List.take_length] at hownr
      obtain ⟨A', c', rfl, _⟩ := own_val hownr
      exact ⟨A', c', rfl, hownr, hb⟩
end Go.Proofs.Ytnoefbmdpbljhaa
