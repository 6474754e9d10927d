/- Layer 10: Pack and its reference, by what they compute. No conditions. -/
import Derived.Test.YtnoefbmdpbljhaaHamD
import Derived.Test.YtnoefbmdpbljhaaP10b
namespace Go.Proofs.Ytnoefbmdpbljhaa
open Go.RowKit
set_option linter.unusedVariables false

/-- a new slice of bytes. -/
def New8 (l : List Nat) (w : World) (e : Ending) (w' : World) : Prop := ∃ A c, e = .returned (.slice A l.length c) ∧ w'.ownsRow w.heap.size 5 1 (.slice A l.length c) l.length (u8s l) ∧ Below w.heap.size w w'
theorem word_at (X : Int) (x : Nat) (hX : X = (x : Int)) (hx : x < 16) (w : World) : Calls Try.prog 10 #[.int .i64 X] w fun e w' => e = .returned (.tuple #[.int .u8 (Hm.word x : Nat), .int .i64 0]) ∧ ∃ n, w' = w.drewN n := by subst hX; exact word_in x hx w
theorem pack_long (A : Option Addr) (c : Nat) (l : List Nat) (hl : 4096 < l.length) (w : World) : Calls Try.prog 21 #[.slice A l.length c] w (New8 [] w) := by
  go_enter Try.func21, Try.ntmps21
  go_wp2
  go_ret
  exact ⟨none, 0, rfl, World.ownsRow_nil _ _ _ _, Below.refl _ _⟩
set_option maxRecDepth 100000 in
set_option maxHeartbeats 2000000 in
theorem pack_any (A : Option Addr) (c : Nat) (l : List Nat) (hl : l.length ≤ 4096) (hb : Byt l) (w : World) (hA : Rd w.heap.size w A (u8s l)) :
    Calls Try.prog 21 #[.slice A l.length c] w (New8 (Hm.pack l) w) := by
  obtain ⟨i0, hi, hz0, hz1, hz2⟩ := info_parts Try.inf8
  have HA := hide hA
  have HBy := hide hb
  have idx0 : ∀ (a b : Int) (w : World), (Instr.index 72 (.agg #[.int .u8 a, .int .u8 b]) (.int .i64 0)).run Try.prog w = .ok (.int .u8 a) w := fun _ _ _ => by kernel_rfl
  have idx1 : ∀ (a b : Int) (w : World), (Instr.index 72 (.agg #[.int .u8 a, .int .u8 b]) (.int .i64 1)).run Try.prog w = .ok (.int .u8 b) w := fun _ _ _ => by kernel_rfl
  clear hA hb
  have hb1 : i0.bytes * (2 * l.length) ≤ 281474976710656 := by rw [hz2]; omega
  have hb2 : 2 * l.length ≤ maxLen := by unfold maxLen; omega
  go_enter Try.func21, Try.ntmps21
  go_wp2_with (at_make; refine wpList_make_own _ rfl _ _ _ rfl w.heap.size 5 i0 (.int .u8 0) 1 Try.underlying39 hi hz0 hz1 .i64 .i64 _ (2 * l.length) rfl rfl (by omega) hb1 hb2 (Nat.le_refl _) ?_; intro w1 hown hgrow)
  have hbel : Below w.heap.size w w1 := (Below.refl _ _).grown hgrow (Nat.le_refl _) (by intro k h; cases h)
  clear hgrow hb1
  go_loopw [3, 19] (fun v i wr => ∃ k : Nat, k ≤ l.length ∧ i = .int .i64 k ∧ wr.ownsRow w.heap.size 5 1 v (Hm.pack (l.take k)).length (u8s (Hm.pack (l.take k))) ∧ Below w.heap.size w wr) (fun _ i _ => l.length - (intOf i).toNat)
  case atStart => exact ⟨0, Nat.zero_le _, rfl, hown, hbel⟩
  case round =>
    obtain ⟨k, hk, rfl, hownr, hb⟩ := hrel
    clear hown hbel
    by_cases hlt : k < l.length
    · obtain ⟨x, hx⟩ : ∃ x, l[k]? = some x := ⟨_, List.getElem?_eq_getElem hlt⟩
      obtain ⟨b1, o1, rfl, hbb, hc1⟩ := (HA.out.below hb (Nat.le_refl _)).at_ (u8s_get hx)
      have hx256 : x < 256 := HBy.out.at_ hx
      have HP : Hid (Hm.pack (l.take (k + 1)) = Hm.pack (l.take k) ++ [Hm.word (x / 16), Hm.word (x % 16)]) := Hm.pack_take l hx
      have hpl : (Hm.pack (l.take k)).length ≤ 8192 := by rw [Hm.pack_length, List.length_take]; omega
      have H15 := hide (u8_and15 (x := (x : Int)) (by omega) (by omega))
      have HW1 := hide (fun X h W => word_at X (x / 16) h (by omega) W)
      have HW2 := hide (fun X h W => word_at X (x % 16) h (by omega) W)
      obtain ⟨p, hp⟩ : ∃ p, p = Hm.pack (l.take k) := ⟨_, rfl⟩
      rw [← hp] at hownr hpl HP
      obtain ⟨y1, hy1⟩ : ∃ y, y = Hm.word (x / 16) := ⟨_, rfl⟩
      obtain ⟨y2, hy2⟩ : ∃ y, y = Hm.word (x % 16) := ⟨_, rfl⟩
      rw [← hy1] at HW1 HP
      rw [← hy2] at HW2 HP
      have HB := hide hb
      clear hp hy1 hy2 hx hb
      go_wp2
      go_loopw [3, 28] (fun v i wq => ∃ m : Nat, m ≤ 2 ∧ i = .int .i64 m ∧ wq.ownsRow w.heap.size 5 1 v (p ++ [y1, y2].take m).length (u8s (p ++ [y1, y2].take m)) ∧ Below w.heap.size w wq) (fun _ i _ => 2 - (intOf i).toNat)
      case atStart => exact ⟨0, by omega, rfl, by simpa using hownr, HB.out⟩
      case round =>
        obtain ⟨m, hm, rfl, hownq, hbq⟩ := hrel
        by_cases hm2 : m < 2
        · have hB := hbq.size
          rcases (by omega : m = 0 ∨ m = 1) with rfl | rfl
          · have hl0 : (p ++ [y1, y2].take 0).length = p.length + 0 := by simp
            rw [hl0] at hownq
            go_wp2_with fail
            refine (HW1.out _ (by omega) _).mono ?_; rintro e w' ⟨rfl, n1, rfl⟩
            obtain ⟨wn, hwn⟩ : ∃ wn, wn = wr.drewN n1 := ⟨_, rfl⟩
            rw [← hwn]
            have hown2 : wn.ownsRow w.heap.size 5 1 u3 (p.length + 0) (u8s (p ++ [y1, y2].take 0)) := by rw [hwn]; exact hownq
            have HBN : Hid (Below w.heap.size w wn) := by show Below w.heap.size w wn; rw [hwn]; exact below_drewN hbq n1
            have hBn := HBN.out.size
            have g1 : p.length + 0 + 1 ≤ 9223372036854775807 := by omega
            have g2 : (p.length + 0 + 1) * 1 ≤ 140737488355328 := by omega
            clear hwn hownq hbq hB hl0
            go_wp2_with (at_builtin; refine wpList_app1 _ rfl (.tmp 37) (.tmp 39) 39 rfl w.heap.size 5 i0 (.int .u8 0) 1 Try.underlying39 hi hz0 hz1 hz2 rfl _ _ _ rfl hown2 _ rfl (by rfl) g1 g2 hBn ?_; intro v' w2 hown1 hg1 hat1)
            go_roundw
            case rel =>
              refine ⟨1, by omega, by go_num, ?_, below_app HBN.out hown2 hg1 hBn⟩
              have e1 : (p ++ [y1, y2].take 1).length = p.length + 0 + 1 := by simp
              have e2 : u8s (p ++ [y1, y2].take 1) = u8s (p ++ [y1, y2].take 0) ++ [.int .u8 ((y1 : Nat) : Int)] := by simp [u8s]
              rw [e1, e2]
              exact hown1
            case measure => simp [intOf]
          · have hl0 : (p ++ [y1, y2].take 1).length = p.length + 1 := by simp
            rw [hl0] at hownq
            go_wp2_with fail
            refine (HW2.out _ (by omega) _).mono ?_; rintro e w' ⟨rfl, n1, rfl⟩
            obtain ⟨wn, hwn⟩ : ∃ wn, wn = wr.drewN n1 := ⟨_, rfl⟩
            rw [← hwn]
            have hown2 : wn.ownsRow w.heap.size 5 1 u3 (p.length + 1) (u8s (p ++ [y1, y2].take 1)) := by rw [hwn]; exact hownq
            have HBN : Hid (Below w.heap.size w wn) := by show Below w.heap.size w wn; rw [hwn]; exact below_drewN hbq n1
            have hBn := HBN.out.size
            have g1 : p.length + 1 + 1 ≤ 9223372036854775807 := by omega
            have g2 : (p.length + 1 + 1) * 1 ≤ 140737488355328 := by omega
            clear hwn hownq hbq hB hl0
            go_wp2_with (at_builtin; refine wpList_app1 _ rfl (.tmp 37) (.tmp 39) 39 rfl w.heap.size 5 i0 (.int .u8 0) 1 Try.underlying39 hi hz0 hz1 hz2 rfl _ _ _ rfl hown2 _ rfl (by rfl) g1 g2 hBn ?_; intro v' w2 hown1 hg1 hat1)
            go_roundw
            case rel =>
              refine ⟨2, by omega, by go_num, ?_, below_app HBN.out hown2 hg1 hBn⟩
              have e1 : (p ++ [y1, y2].take 2).length = p.length + 1 + 1 := by simp
              have e2 : u8s (p ++ [y1, y2].take 2) = u8s (p ++ [y1, y2].take 1) ++ [.int .u8 ((y2 : Nat) : Int)] := by simp [u8s]
              rw [e1, e2]
              exact hown1
            case measure => simp [intOf]
        · obtain rfl : m = 2 := by omega
          go_wp2
          go_roundw
          case rel =>
            refine ⟨k + 1, by omega, by go_num, ?_, hbq⟩
            rw [HP.out]
            exact hownq
          case measure => simp [intOf]; omega
    · obtain rfl : k = l.length := by omega
      go_wp2
      go_ret
      rw [List.take_length] at hownr
      obtain ⟨A', c', rfl, _⟩ := own_val hownr
      exact ⟨A', c', rfl, hownr, hb⟩
end Go.Proofs.Ytnoefbmdpbljhaa
