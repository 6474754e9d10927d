/- Layer 26's reference: First, Same; live; the law NonceApart, walked. No conditions. -/
import Derived.Test.YtcbbnddhihmafaaNonA
import Derived.Test.YtcbbnddhihmafaaNonC
import Derived.Test.YtcbbnddhihmafaaSame
import Derived.Test.YtcbbnddhihmafaaIn
namespace Go.Proofs.Ytcbbnddhihmafaa
open Go.RowKit No
set_option linter.unusedVariables false

/-- Of two slices of numbers: they are the same list, or not. -/
theorem sameU_any (A C : Option Addr) (c d B : Nat) (l m : List Nat) (w : World) (hA : Rd B w A (u64s l)) (hC : Rd B w C (u64s m)) (hl : l.length ≤ 9223372036854775807) :
    Calls Try.prog 57 #[.slice A l.length c, .slice C m.length d] w fun e w' => e = .returned (.bool (l == m)) ∧ ∃ n, w' = w.drewN n := by
  by_cases hlen : l.length = m.length
  · have HL := hide hlen
    have h0 : ((l.length : Int) != (m.length : Int)) = false := by rw [hlen]; simp
    have HA := hide hA
    have HC := hide hC
    clear hlen hA hC
    go_enter Try.func57, Try.ntmps57
    go_wp2
    go_loopw [5] (fun i wr => ∃ k : Nat, k ≤ l.length ∧ i = .int .i64 k ∧ Hid (∀ j, j < k → l[j]? = m[j]?) ∧ ∃ n, wr = w.drewN n) (fun i _ => l.length - (intOf i).toNat)
    case atStart => exact ⟨0, Nat.zero_le _, rfl, fun j hj => absurd hj (by omega), 0, rfl⟩
    case round =>
      obtain ⟨k, hk, rfl, hsame, nd, rfl⟩ := hrel
      by_cases hlt : k < l.length
      · obtain ⟨x, hx⟩ : ∃ x, l[k]? = some x := ⟨_, List.getElem?_eq_getElem hlt⟩
        obtain ⟨y, hy⟩ : ∃ y, m[k]? = some y := ⟨_, List.getElem?_eq_getElem (by have := HL.out; omega)⟩
        obtain ⟨b1, o1, rfl, _, hc1⟩ := HA.out.at_ (u64s_get hx)
        obtain ⟨b2, o2, rfl, _, hc2⟩ := HC.out.at_ (u64s_get hy)
        have hkm : k < m.length := by have := HL.out; omega
        have g1 : (0 : Int) ≤ (k : Int) := by omega
        have g2 : (k : Int) < (l.length : Int) := by omega
        have g3 : (k : Int) < (m.length : Int) := by omega
        have HX := hide hx
        have HY := hide hy
        clear hx hy
        by_cases hxy : x = y
        · subst hxy
          have ht : ((x : Int) != (x : Int)) = false := by simp
          go_wp2
          go_quiet (fail)
          go_wp2
          go_roundw
          case rel =>
            refine ⟨k + 1, by omega, by go_num, ?_, _, rfl⟩
            intro j hj
            by_cases e : j = k
            · subst e; rw [HX.out, HY.out]
            · exact hsame.out j (by omega)
          case measure => simp [intOf]; omega
        · have ht : ((x : Int) != (y : Int)) = true := by simp; omega
          have hf := hide (same_at HX.out HY.out hxy)
          clear hxy
          go_wp2
          go_quiet (fail)
          go_wp2
          go_ret
          exact ⟨by rw [hf.out]; rfl, _, World.drewN_drewN ..⟩
      · have hf := hide (same_all HL.out (fun j hj => hsame.out j (by omega)))
        go_wp2
        go_ret
        exact ⟨by rw [hf.out]; rfl, _, rfl⟩
  · have hf := hide (same_len hlen)
    have h0 : ((l.length : Int) != (m.length : Int)) = true := by simp; omega
    clear hlen
    go_enter Try.func57, Try.ntmps57
    go_wp2
    go_ret
    exact ⟨by rw [hf.out]; rfl, 0, rfl⟩

/-- Two slices that hold one list: they are the same. -/
theorem sameU_eq {A C : Option Addr} {c d B : Nat} {l : List Nat} {w : World} (hA : Rd B w A (u64s l)) (hC : Rd B w C (u64s l)) (hl : l.length ≤ 9223372036854775807) :
    Calls Try.prog 57 #[.slice A l.length c, .slice C l.length d] w fun e w' => e = .returned (.bool true) ∧ Below w.heap.size w w' :=
  (sameU_any A C c d B l l w hA hC hl).mono fun e w' ⟨he, n, hn⟩ => ⟨by rw [he]; simp, by rw [hn]; exact below_drewN (Below.refl _ _) n⟩

theorem src_used (w : World) (B g : Nat) (L U : List Nat) (F : Nat → Prop) (h : Src w B g L U F) (hU : U.length ≤ 1099511627776) : Calls Try.prog 56 #[.pointer (some ⟨g, 0, none⟩)] w (NewU U w) := by
  have HIS := hide (src_is w B g L U F h)
  obtain ⟨hf, hF, D, c, V, cv, hb, hD, hr, ho, hV⟩ := h
  have c2 : w.cell? ⟨g, 2, none⟩ = some (.slice V U.length cv) := hb.cell rfl
  have HC := hide (clone_u64 V cv U (by omega) w (own_rd ho))
  clear hf hF hb hD hr ho hV hU
  go_enter Try.func56, Try.ntmps56
  go_wp2_with (first
    | (go_at_call 72; refine HIS.out.mono ?_; rintro e w' ⟨rfl, rfl⟩)
    | (go_at_call 71; refine HC.out.mono ?_; rintro e w1 ⟨A', c', rfl, hown, hb⟩)
    | go_in)
  go_ret
  exact ⟨A', c', rfl, hown, hb⟩

theorem nodup_of {l : List Nat} {k : Nat} (hk : k < l.length) (hn : (l.take k).Nodup) (h : ∀ j, j < k → l[j]? ≠ l[k]?) : (l.take (k + 1)).Nodup := by
  refine nodup_next hn (List.getElem?_eq_getElem hk) fun hm => ?_
  obtain ⟨j, hj, hx⟩ := mem_take hm
  exact h j hj (hx.trans (List.getElem?_eq_getElem hk).symm)

set_option maxHeartbeats 1000000 in
theorem rfirst_any (A : Option Addr) (c : Nat) (l : List Nat) (h63 : l.length ≤ 17592186044416) (w : World) (hA : Rd w.heap.size w A (u64s l)) :
    Calls Try.prog 50 #[.slice A l.length c] w (FirstR l w) := by
  have HA := hide hA
  clear hA
  go_enter Try.func50, Try.ntmps50
  go_wp2
  go_loopw [5, 6] (fun i _ wr => ∃ k : Nat, k ≤ l.length ∧ i = .int .i64 k ∧ Hid ((l.take k).Nodup) ∧ ∃ n, wr = w.drewN n) (fun i _ _ => l.length - (intOf i).toNat)
  case atStart => exact ⟨0, Nat.zero_le _, rfl, hide (by simp), 0, rfl⟩
  case round =>
    obtain ⟨k, hk, rfl, hnd, nd, rfl⟩ := hrel
    by_cases hlt : k < l.length
    · obtain ⟨x, hx⟩ : ∃ x, l[k]? = some x := ⟨_, List.getElem?_eq_getElem hlt⟩
      obtain ⟨b1, o1, rfl, _, hc1⟩ := HA.out.at_ (u64s_get hx)
      have HX := hide hx
      clear hx
      go_wp2
      go_loopw [6] (fun i wr => ∃ j : Nat, j ≤ k ∧ i = .int .i64 j ∧ Hid (∀ m, m < j → l[m]? ≠ l[k]?) ∧ ∃ n, wr = w.drewN n) (fun i _ => k - (intOf i).toNat)
      case atStart => exact ⟨0, Nat.zero_le _, rfl, fun m hm => absurd hm (by omega), nd, rfl⟩
      case round =>
        obtain ⟨j, hj, rfl, hne, nj, rfl⟩ := hrel
        by_cases hjk : j < k
        · obtain ⟨y, hy⟩ : ∃ y, l[j]? = some y := ⟨_, List.getElem?_eq_getElem (by omega)⟩
          obtain ⟨b2, o2, hb2, _, hc2⟩ := HA.out.at_ (u64s_get hy)
          injection hb2 with hb2
          injection hb2 with hb2 ho2
          subst hb2 ho2
          have HY := hide hy
          clear hy
          have g1 : (0 : Int) ≤ (k : Int) := by omega
          have g2 : (0 : Int) ≤ (j : Int) := by omega
          have g3 : (k : Int) < (l.length : Int) := by omega
          have g4 : (j : Int) < (l.length : Int) := by omega
          by_cases hxy : y = x
          · subst hxy
            have ht : ((y : Int) == (y : Int)) = true := by simp
            have HFIN : Hid (IsFirst l j k) := ⟨hjk, hlt, HY.out.trans HX.out.symm, hnd.out⟩
            go_wp2
            go_quiet (fail)
            go_wp2
            go_ret3
            exact ⟨.inl ⟨j, k, HFIN.out, rfl⟩, by first | exact below_drewN (Below.refl _ _) _ | (rw [World.drewN_drewN]; exact below_drewN (Below.refl _ _) _)⟩
          · have ht : ((y : Int) == (x : Int)) = false := by simp; omega
            have HNE : Hid (∀ m, m < j + 1 → l[m]? ≠ l[k]?) := by
              intro m hm e
              by_cases hmj : m = j
              · subst hmj; rw [HY.out, HX.out] at e; injection e with e; exact hxy e
              · exact hne.out m (by omega) e
            clear hxy
            go_wp2
            go_quiet (fail)
            go_wp2
            go_roundw
            case rel => exact ⟨j + 1, by omega, by go_num, HNE, _, rfl⟩
            case measure => simp [intOf]; omega
        · obtain rfl : j = k := by omega
          have HND := hide (nodup_of hlt hnd.out hne.out)
          go_wp2
          go_roundw
          case rel => exact ⟨j + 1, by omega, by go_num, HND, _, rfl⟩
          case measure => simp [intOf]; omega
    · obtain rfl : k = l.length := by omega
      go_wp2
      go_ret3
      exact ⟨.inr ⟨by have := hnd.out; rwa [List.take_length] at this, rfl⟩, below_drewN (Below.refl _ _) _⟩
end Go.Proofs.Ytcbbnddhihmafaa
