/- The reference's Join: byte slices one behind the other. No conditions. -/
import Derived.Test.YtcbbnddhihmafaaLst
namespace Go.Proofs.Ytcbbnddhihmafaa
open Go.RowKit
set_option linter.unusedVariables false

theorem join_any (A : Option Addr) (c : Nat) (ls : List (List Nat)) (h63 : ls.length ≤ 9223372036854775807) (hl : ls.flatten.length ≤ 1099511627776) (w : World) (hA : RdL w.heap.size w A ls) :
    Calls Try.prog 47 #[.slice A ls.length c] w fun e w' =>
    ∃ v, e = .returned v ∧ w'.ownsRow w.heap.size 5 1 v ls.flatten.length (u8s ls.flatten) ∧ Below w.heap.size w w' := by
  obtain ⟨i0, hi, hz0, hz1, hz2⟩ := info_parts Try.inf8
  have HA := hide hA
  clear hA
  go_enter Try.func47, Try.ntmps47
  go_wp2
  go_loopw [3, 4] (fun v i wr => ∃ k : Nat, k ≤ ls.length ∧ i = .int .i64 k ∧ wr.ownsRow w.heap.size 5 1 v (ls.take k).flatten.length (u8s (ls.take k).flatten) ∧ Below w.heap.size w wr) (fun _ i _ => ls.length - (intOf i).toNat)
  case atStart => exact ⟨0, Nat.zero_le _, rfl, World.ownsRow_nil _ _ _ _, Below.refl _ _⟩
  case round =>
    obtain ⟨k, hk, rfl, hownr, hb⟩ := hrel
    by_cases hlt : k < ls.length
    · obtain ⟨l, hlk⟩ : ∃ l, ls[k]? = some l := ⟨_, List.getElem?_eq_getElem hlt⟩
      obtain ⟨b1, o1, a2, c2, rfl, hbb, hc1, hr2⟩ := (HA.out.below hb (Nat.le_refl _)).at_ hlk
      have hft := flat_take ls hlk
      have hfl := flat_le ls (k + 1)
      rw [hft, List.length_append] at hfl
      have HF := hide hft
      have hB := hb.size
      have g1 : (ls.take k).flatten.length + (u8s l).length ≤ 9223372036854775807 := by rw [u8s_length]; omega
      have g2 : ((ls.take k).flatten.length + (u8s l).length) * 1 ≤ 140737488355328 := by rw [u8s_length]; omega
      have g3 : l.length = (u8s l).length := (u8s_length l).symm
      have G3 := hide g3
      clear hft hfl hlk g3
      go_wp2_with (at_builtin; refine wpList_appN _ rfl (.tmp 11) (.tmp 15) 28 rfl w.heap.size 5 i0 (.int .u8 0) 1 Try.underlying28 hi hz0 hz1 hz2 rfl _ _ _ rfl hownr a2 c2 w.heap.size l.length (u8s l) (by rfl) G3.out hr2 (u8s_one l) g1 g2 hB ?_; intro v' w2 hown1 hg1 hat1)
      go_roundw
      case rel =>
        refine ⟨k + 1, by omega, by go_num, ?_, below_app hb hownr hg1 hB⟩
        rw [HF.out, u8s_app, List.length_append, G3.out]
        exact hown1
      case measure => simp [intOf]; omega
    · obtain rfl : k = ls.length := by omega
      go_wp2
      go_ret
      rw [List.take_length] at hownr
      exact ⟨_, rfl, hownr, hb⟩
end Go.Proofs.Ytcbbnddhihmafaa
