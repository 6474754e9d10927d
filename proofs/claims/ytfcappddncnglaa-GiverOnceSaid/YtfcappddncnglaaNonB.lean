/- Clone at numbers, and layer 26's Source with its reference, each by what it does in memory. No conditions. -/
import Derived.Test.YtfcappddncnglaaSep
import Derived.Test.YtfcappddncnglaaP26
namespace Go.Proofs.Ytfcappddncnglaa
open Go.RowKit
set_option linter.unusedVariables false

theorem Try.infU : (Try.prog.info? 94).map (fun i => (i.zero, i.size, i.bytes)) = some (some (.int .u64 0), 1, 8) := by kernel_rfl
theorem u64s_one (l : List Nat) : ∀ u ∈ u64s l, u.oneCell' = true := by
  intro u hu
  simp only [u64s, List.mem_map] at hu
  obtain ⟨n, _, rfl⟩ := hu
  rfl
/-- a new slice of numbers. -/
def NewU (l : List Nat) (w : World) (e : Ending) (w' : World) : Prop := ∃ A c, e = .returned (.slice A l.length c) ∧ w'.ownsRow w.heap.size 94 1 (.slice A l.length c) l.length (u64s l) ∧ Below w.heap.size w w'

theorem clone_u64 (A : Option Addr) (c : Nat) (l : List Nat) (hl : l.length ≤ 17592186044416) (w : World) (hA : Rd w.heap.size w A (u64s l)) :
    Calls Try.prog 74 #[.slice A l.length c] w (NewU l w) := by
  obtain ⟨i0, hi, hz0, hz1, hz2⟩ := info_parts Try.infU
  have q : ∀ (w : World) (a : Option Addr) (n c n' c' : Nat), (binOp .eql 81 (.slice a n c) (.slice none n' c')).run Try.prog w = .ok (.bool a.isNone) w := fun w a n c n' c' => Lib.run_eql_slice_nil w _ _ a n c n' c' Try.underlying81
  cases A with
  | none =>
    have hl0 : l = [] := by
      rcases l with _ | ⟨x, l⟩
      · rfl
      · obtain ⟨b, o, hb, _⟩ := hA (by simp [u64s]); cases hb
    subst hl0
    clear hA hl
    go_enter Try.func74, Try.ntmps74
    go_wp2
    go_ret
    exact ⟨none, 0, rfl, World.ownsRow_nil _ _ _ _, Below.refl _ _⟩
  | some A =>
    have HA := hide hA
    have g3 : l.length = (u64s l).length := (u64s_length l).symm
    have G3 := hide g3
    have g1 : 0 + (u64s l).length ≤ 9223372036854775807 := by rw [u64s_length]; omega
    have g2 : (0 + (u64s l).length) * 8 ≤ 140737488355328 := by rw [u64s_length]; omega
    clear hA g3
    go_enter Try.func74, Try.ntmps74
    go_wp2_with (at_builtin; refine wpList_appN _ rfl (.tmp 5) (.tmp 6) 81 rfl w.heap.size 94 i0 (.int .u64 0) 8 Try.underlying81 hi hz0 hz1 hz2 rfl _ _ _ rfl (own_zero w _) (some A) c w.heap.size l.length (u64s l) (by rfl) G3.out ((HA.out).below ((Below.refl _ _).alloc (Nat.le_refl _) _) (Nat.le_refl _)) (u64s_one l) g1 g2 ((Below.refl w.heap.size w).alloc (Nat.le_refl _) _).size ?_; intro v' w2 hown1 hg1 hat1)
    go_ret
    rw [List.nil_append, Nat.zero_add, ← G3.out] at hown1
    obtain ⟨A', c', rfl, _⟩ := own_val hown1
    exact ⟨A', c', rfl, hown1, below_app ((Below.refl _ _).alloc (Nat.le_refl _) _) (own_zero w _) hg1 ((Below.refl w.heap.size w).alloc (Nat.le_refl _) _).size⟩
end Go.Proofs.Ytfcappddncnglaa
