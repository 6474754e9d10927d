/- Layer 10: the law HammingPacks, walked. No conditions. -/
import Derived.Test.YtnoefbmdpbljhaaHamK
import Derived.Test.YtnoefbmdpbljhaaSame
import Derived.Test.YtnoefbmdpbljhaaIn
namespace Go.Proofs.Ytnoefbmdpbljhaa
open Go.RowKit
set_option linter.unusedVariables false

theorem unp_det {W : List Nat} {l l' : List Nat} {n n' f f' : Nat}
    (h : (8192 < W.length ∧ l = [] ∧ n = 0 ∧ f = 2) ∨ (W.length ≤ 8192 ∧ W.length % 2 = 1 ∧ l = [] ∧ n = 0 ∧ f = 1) ∨ (W.length ≤ 8192 ∧ W.length % 2 = 0 ∧ ¬ Hm.okW W W.length ∧ l = [] ∧ n = 0 ∧ f = 100) ∨
     (W.length ≤ 8192 ∧ W.length % 2 = 0 ∧ Hm.okW W W.length ∧ l = Hm.rbytes W (W.length / 2) ∧ n = Hm.cnt W W.length ∧ f = 0))
    (h' : (8192 < W.length ∧ l' = [] ∧ n' = 0 ∧ f' = 2) ∨ (W.length ≤ 8192 ∧ W.length % 2 = 1 ∧ l' = [] ∧ n' = 0 ∧ f' = 1) ∨ (W.length ≤ 8192 ∧ W.length % 2 = 0 ∧ ¬ Hm.okW W W.length ∧ l' = [] ∧ n' = 0 ∧ f' = 100) ∨
     (W.length ≤ 8192 ∧ W.length % 2 = 0 ∧ Hm.okW W W.length ∧ l' = Hm.rbytes W (W.length / 2) ∧ n' = Hm.cnt W W.length ∧ f' = 0)) : l = l' ∧ n = n' ∧ f = f' := by
  rcases h with ⟨a, b, c, d⟩ | ⟨a, a2, b, c, d⟩ | ⟨a, a2, a3, b, c, d⟩ | ⟨a, a2, a3, b, c, d⟩ <;>
  rcases h' with ⟨a', b', c', d'⟩ | ⟨a', a2', b', c', d'⟩ | ⟨a', a2', a3', b', c', d'⟩ | ⟨a', a2', a3', b', c', d'⟩ <;>
  first
    | exact ⟨b.trans b'.symm, c.trans c'.symm, d.trans d'.symm⟩
    | omega
    | exact absurd a3 a3'
    | exact absurd a3' a3
def Hm.packL (l : List Nat) : List Nat := if 4096 < l.length then [] else Hm.pack l
theorem packL_any (A : Option Addr) (c : Nat) (l : List Nat) (hb : Byt l) (w : World) (hA : Rd w.heap.size w A (u8s l)) : Calls Try.prog 21 #[.slice A l.length c] w (New8 (Hm.packL l) w) := by
  unfold Hm.packL
  by_cases h : 4096 < l.length
  · rw [if_pos h]; exact pack_long A c l h w
  · rw [if_neg h]; exact pack_any A c l (by omega) hb w hA
theorem rpackL_any (A : Option Addr) (c : Nat) (l : List Nat) (hb : Byt l) (w : World) (hA : Rd w.heap.size w A (u8s l)) : Calls Try.prog 22 #[.slice A l.length c] w (New8 (Hm.packL l) w) := by
  unfold Hm.packL
  by_cases h : 4096 < l.length
  · rw [if_pos h]; exact rpack_long A c l h w
  · rw [if_neg h]; exact rpack_any A c l (by omega) hb w hA
theorem packL_len (l : List Nat) : (Hm.packL l).length ≤ 9223372036854775807 := by
  unfold Hm.packL
  split
  · simp
  · rw [Hm.pack_length]; omega
set_option maxRecDepth 100000 in
set_option maxHeartbeats 2000000 in
theorem packs_live (w : World) (A C : Option Addr) (c d n m : Nat) (h : (300 < n ∧ n ≤ 4096) ∨ (n ≤ 300 ∧ 300 < m ∧ m ≤ 8192) ∨ (4096 < n ∧ 300 < m ∧ m ≤ 8192)) : Calls Try.prog 5 #[.slice A n c, .slice C m d] w fun e w' => e = .returned (.bool true) ∧ Below w.heap.size w w' := by
  rcases h with ⟨h0, h1⟩ | ⟨h0, h1, h2⟩ | ⟨h0, h1, h2⟩
  all_goals
    go_enter Try.func5, Try.ntmps5
    go_wp2_with fail
    refine (live10 _).mono ?_; rintro e w7 ⟨rfl, n7, rfl⟩
    go_wp2
    go_ret
    exact ⟨rfl, below_drews _ _⟩
set_option maxRecDepth 100000 in
set_option maxHeartbeats 2000000 in
theorem packs_in (w : World) (A C : Option Addr) (c d : Nat) (l m : List Nat) (hA : In8 w A c l) (hC : In8 w C d m) (h : (l.length ≤ 300 ∧ m.length ≤ 300) ∨ (l.length ≤ 300 ∧ 8192 < m.length) ∨ (4096 < l.length ∧ m.length ≤ 300) ∨ (4096 < l.length ∧ 8192 < m.length)) :
    Calls Try.prog 5 #[.slice A l.length c, .slice C m.length d] w fun e w' => e = .returned (.bool true) ∧ Below w.heap.size w w' := by
  have HA := hide hA
  have HC := hide hC
  have HU := hide (fun W h => unpack_any C d m HC.out.byt HC.out.len W h)
  have HV := hide (fun W h => runpack_any C d m HC.out.byt HC.out.len W h)
  have HP := hide (fun W h => packL_any A c l HA.out.byt W h)
  have HQ := hide (fun W h => rpackL_any A c l HA.out.byt W h)
  have HL := hide (packL_len l)
  obtain ⟨p, hp⟩ : ∃ p, p = Hm.packL l := ⟨_, rfl⟩
  rw [← hp] at HP HQ HL
  clear hA hC hp
  rcases h with ⟨h0, h1⟩ | ⟨h0, h1⟩ | ⟨h0, h1⟩ | ⟨h0, h1⟩
  all_goals
    go_enter Try.func5, Try.ntmps5
    go_wp2_with fail
    refine (HU.out _ HC.out.rd).mono ?_; rintro e w1 ⟨⟨X, x, cx, n1, f1, rfl, hox, hv1⟩, hb1⟩
    go_wp2_with fail
    refine (HV.out _ (HC.out.rd.on hb1)).mono ?_; rintro e w2 ⟨⟨Y, y, cy, n2, f2, rfl, hoy, hv2⟩, hb2⟩
    obtain ⟨rfl, rfl, rfl⟩ := unp_det hv1 hv2
    have HX := hide ((own_rd hox).on hb2)
    have HY := hide (own_rd hoy)
    have HB := hide (below2 hb1 hb2 (Nat.le_refl _))
    have HXL : Hid (x.length ≤ 9223372036854775807) := by
      show _ ≤ _
      rcases hv1 with ⟨_, h, _⟩ | ⟨_, _, h, _⟩ | ⟨_, _, _, h, _⟩ | ⟨h3, _, _, h, _⟩ <;> rw [h] <;> simp [Hm.rbytes] <;> omega
    have hq1 : ((n1 : Int) == (n1 : Int)) = true := by simp
    have hq2 : ((f1 : Int) == (f1 : Int)) = true := by simp
    clear hv1 hv2 hox hoy hb1 hb2
    go_wp2_with fail
    refine (HP.out _ (HA.out.rd.on HB.out)).mono ?_; rintro e w3 ⟨P1, c1, rfl, hop, hb3⟩
    have hB3 := below2 HB.out hb3 (Nat.le_refl _)
    go_wp2_with fail
    refine (HQ.out _ (HA.out.rd.on hB3)).mono ?_; rintro e w4 ⟨P2, c2, rfl, hoq, hb4⟩
    go_wp2_with fail
    refine (same_eq ((own_rd hop).on hb4) (own_rd hoq) HL.out).mono ?_; rintro e w5 ⟨rfl, hb5⟩
    have hB5 := below2 (below2 hb3 hb4 (Nat.le_refl _)) hb5 (Nat.le_refl _)
    have HB5 := hide (below2 HB.out hB5 (Nat.le_refl _))
    have HX5 := hide (HX.out.on hB5)
    have HY5 := hide (HY.out.on hB5)
    clear hop hoq hb3 hb4 hb5 hB3 hB5
    go_wp2_with fail
    refine (same_eq HX5.out HY5.out HXL.out).mono ?_; rintro e w6 ⟨rfl, hb6⟩
    go_wp2_with fail
    refine (num10 _ _).mono ?_; rintro e w' ⟨rfl, rfl⟩
    go_wp2_with fail
    refine (live10 _).mono ?_; rintro e w7 ⟨rfl, n7, rfl⟩
    go_wp2
    go_ret
    exact ⟨rfl, below_drewN (below2 HB5.out hb6 (Nat.le_refl _)) _⟩
theorem walk_HammingPacks (w : World) (A : Option Addr) (c : Nat) (l : List Nat) (hA : In8 w A c l) (C : Option Addr) (d : Nat) (m : List Nat) (hC : In8 w C d m) :
    Calls Try.prog 5 #[.slice A l.length c, .slice C m.length d] w fun e w' => e = .returned (.bool true) ∧ Below w.heap.size w w' := by
  by_cases h : (300 < l.length ∧ l.length ≤ 4096) ∨ (l.length ≤ 300 ∧ 300 < m.length ∧ m.length ≤ 8192) ∨ (4096 < l.length ∧ 300 < m.length ∧ m.length ≤ 8192)
  · exact packs_live w A C c d _ _ h
  · exact packs_in w A C c d l m hA hC (by omega)
end Go.Proofs.Ytnoefbmdpbljhaa
