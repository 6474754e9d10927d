/- The reference's Same: are two slices of bytes the same list? No conditions. -/
import Derived.Test.YtnbhgeodbpelgaaBase
import Derived.Test.YtnbhgeodbpelgaaRows
namespace Go.Proofs.Ytnbhgeodbpelgaa
open Go.RowKit

theorem same_len {l m : List Nat} (h : l.length ≠ m.length) : (l == m) = false := by
  rw [beq_eq_false_iff_ne]; rintro rfl; exact h rfl
theorem same_at {l m : List Nat} {k x y : Nat} (hx : l[k]? = some x) (hy : m[k]? = some y) (h : x ≠ y) : (l == m) = false := by
  rw [beq_eq_false_iff_ne]; rintro rfl; rw [hx] at hy; injection hy with hy; exact h hy
theorem same_all {l m : List Nat} (hl : l.length = m.length) (h : ∀ j, j < l.length → l[j]? = m[j]?) : (l == m) = true := by
  rw [beq_iff_eq]
  apply List.ext_getElem?
  intro j
  by_cases hj : j < l.length
  · exact h j hj
  · rw [List.getElem?_eq_none (by omega), List.getElem?_eq_none (by omega)]

/-- Of two slices of bytes: they are the same list, or not. -/
theorem same_any (A C : Option Addr) (c d B : Nat) (l m : List Nat) (w : World) (hA : Rd B w A (u8s l)) (hC : Rd B w C (u8s m)) (hl : l.length ≤ 9223372036854775807) :
    Calls Try.prog 32 #[.slice A l.length c, .slice C m.length d] w fun e w' => e = .returned (.bool (l == m)) ∧ ∃ n, w' = w.drewN n := by
  by_cases hlen : l.length = m.length
  · have HL := hide hlen
    have h0 : ((l.length : Int) != (m.length : Int)) = false := by rw [hlen]; simp
    have HA := hide hA
    have HC := hide hC
    clear hlen hA hC
    go_enter Try.func32, Try.ntmps32
    go_wp2
    go_loopw [5] (fun i wr => ∃ k : Nat, k ≤ l.length ∧ i = .int .i64 k ∧ Hid (∀ j, j < k → l[j]? = m[j]?) ∧ ∃ n, wr = w.drewN n) (fun i _ => l.length - (intOf i).toNat)
    case atStart => exact ⟨0, Nat.zero_le _, rfl, fun j hj => absurd hj (by omega), 0, rfl⟩
    case round =>
      obtain ⟨k, hk, rfl, hsame, nd, rfl⟩ := hrel
      by_cases hlt : k < l.length
      · obtain ⟨x, hx⟩ : ∃ x, l[k]? = some x := ⟨_, List.getElem?_eq_getElem hlt⟩
        obtain ⟨y, hy⟩ : ∃ y, m[k]? = some y := ⟨_, List.getElem?_eq_getElem (by have := HL.out; omega)⟩
        obtain ⟨b1, o1, rfl, _, hc1⟩ := HA.out.at_ (u8s_get hx)
        obtain ⟨b2, o2, rfl, _, hc2⟩ := HC.out.at_ (u8s_get hy)
        have hkm : k < m.length := by have := HL.out; omega
        have g1 : (0 : Int) ≤ (k : Int) := by omega
        have g2 : (k : Int) < (l.length : Int) := by omega
        have g3 : (k : Int) < (m.length : Int) := by omega
        have HX := hide hx
        have HY := hide hy
        clear hx hy
        by_cases hxy : x = y
        · subst hxy
          have ht : ((x : Int) != (x : Int)) = false := by simp
          go_wp2
          go_quiet (fail)
          go_wp2
          go_roundw
          case rel =>
            refine ⟨k + 1, by omega, by go_num, ?_, _, rfl⟩
            intro j hj
            by_cases e : j = k
            · subst e; rw [HX.out, HY.out]
            · exact hsame.out j (by omega)
          case measure => simp [intOf]; omega
        · have ht : ((x : Int) != (y : Int)) = true := by simp; omega
          have hf := hide (same_at HX.out HY.out hxy)
          clear hxy
          go_wp2
          go_quiet (fail)
          go_wp2
          go_ret
          exact ⟨by rw [hf.out]; rfl, _, World.drewN_drewN ..⟩
      · have hf := hide (same_all HL.out (fun j hj => hsame.out j (by omega)))
        go_wp2
        go_ret
        exact ⟨by rw [hf.out]; rfl, _, rfl⟩
  · have hf := hide (same_len hlen)
    have h0 : ((l.length : Int) != (m.length : Int)) = true := by simp; omega
    clear hlen
    go_enter Try.func32, Try.ntmps32
    go_wp2
    go_ret
    exact ⟨by rw [hf.out]; rfl, 0, rfl⟩

/-- Two slices that hold one list: they are the same. -/
theorem same_eq {A C : Option Addr} {c d B : Nat} {l : List Nat} {w : World} (hA : Rd B w A (u8s l)) (hC : Rd B w C (u8s l)) (hl : l.length ≤ 9223372036854775807) :
    Calls Try.prog 32 #[.slice A l.length c, .slice C l.length d] w fun e w' => e = .returned (.bool true) ∧ Below w.heap.size w w' :=
  (same_any A C c d B l l w hA hC hl).mono fun e w' ⟨he, n, hn⟩ => ⟨by rw [he]; simp, by rw [hn]; exact below_drewN (Below.refl _ _) n⟩
end Go.Proofs.Ytnbhgeodbpelgaa
