/- Layer 10: the law HammingBack, walked. No conditions. -/
import Derived.Test.YtnoefbmdpbljhaaHamL
import Derived.Test.YtnoefbmdpbljhaaP10c
namespace Go.Proofs.Ytnoefbmdpbljhaa
open Go.RowKit
set_option linter.unusedVariables false

/-- what is at hand behind k places. -/
theorem unp_tw {l : List Nat} {T : List Int} {k : Nat} (hl : Byt l) (h2 : l.length ≤ 200) (hk : k = 2 * l.length ∨ (k < 2 * l.length ∧ T.length ≤ k)) {x : List Nat} {n f : Nat}
    (h : (8192 < (Hm.tw (Hm.pack l) T k).length ∧ x = [] ∧ n = 0 ∧ f = 2) ∨ ((Hm.tw (Hm.pack l) T k).length ≤ 8192 ∧ (Hm.tw (Hm.pack l) T k).length % 2 = 1 ∧ x = [] ∧ n = 0 ∧ f = 1) ∨ ((Hm.tw (Hm.pack l) T k).length ≤ 8192 ∧ (Hm.tw (Hm.pack l) T k).length % 2 = 0 ∧ ¬ Hm.okW (Hm.tw (Hm.pack l) T k) (Hm.tw (Hm.pack l) T k).length ∧ x = [] ∧ n = 0 ∧ f = 100) ∨
     ((Hm.tw (Hm.pack l) T k).length ≤ 8192 ∧ (Hm.tw (Hm.pack l) T k).length % 2 = 0 ∧ Hm.okW (Hm.tw (Hm.pack l) T k) (Hm.tw (Hm.pack l) T k).length ∧ x = Hm.rbytes (Hm.tw (Hm.pack l) T k) ((Hm.tw (Hm.pack l) T k).length / 2) ∧ n = Hm.cnt (Hm.tw (Hm.pack l) T k) (Hm.tw (Hm.pack l) T k).length ∧ f = 0)) :
    x = l ∧ n = Hm.tc T k ∧ f = 0 := by
  have hlen : (Hm.tw (Hm.pack l) T k).length = 2 * l.length := by rw [Hm.tw_length, Hm.pack_length]
  rw [hlen] at h
  have hok := Hm.tw_okW l hl T k hk
  rcases h with h | h | h | ⟨_, _, _, h4, h5, h6⟩
  · omega
  · omega
  · exact absurd hok h.2.2.1
  · rw [show 2 * l.length / 2 = l.length by omega, Hm.tw_bytes l hl T k hk] at h4
    rw [Hm.tw_all l hl T k hk] at h5
    exact ⟨h4, h5, h6⟩
theorem back_live (w : World) (A C : Option Addr) (c d n m : Nat) (h : 200 < n) : Calls Try.prog 6 #[.slice A n c, .slice C m d] w fun e w' => e = .returned (.bool true) ∧ Below w.heap.size w w' := by
  go_enter Try.func6, Try.ntmps6
  go_wp2_with fail
  refine (live10 _).mono ?_; rintro e w7 ⟨rfl, n7, rfl⟩
  go_wp2
  go_ret
  exact ⟨rfl, below_drews _ _⟩
/-- the end, behind the loop. -/
theorem pack2 {A : Option Addr} {c : Nat} {l : List Nat} (h2 : l.length ≤ 200) (hb : Byt l) {w : World} (hA : Rd w.heap.size w A (u8s l)) :
    Calls Try.prog 21 #[.slice A l.length c] w fun e w' => ∃ A c, e = .returned (.slice A (2 * l.length : Nat) c) ∧ w'.ownsRow w.heap.size 5 1 (.slice A (2 * l.length : Nat) c) (2 * l.length) (u8s (Hm.pack l)) ∧ Below w.heap.size w w' := by
  have h := pack_any A c l (by omega) hb w hA
  unfold New8 at h
  rw [Hm.pack_length] at h
  exact h
theorem unpack2 {A : Option Addr} {c n : Nat} {W : List Nat} (hn : W.length = n) (hb : Byt W) (hll : W.length ≤ 9223372036854775807) {w : World} (hA : Rd w.heap.size w A (u8s W)) :
    Calls Try.prog 18 #[.slice A n c] w (UnpR W w) := by subst hn; exact unpack_any A c W hb hll w hA
theorem tw_byt {l : List Nat} (hl : Byt l) (T : List Int) (k : Nat) : Byt (Hm.tw (Hm.pack l) T k) := by
  intro x hx
  obtain ⟨j, hj, rfl⟩ := List.mem_map.1 hx
  have hj2 : j < 2 * l.length := by rw [← Hm.pack_length]; simpa using hj
  have hw : (Hm.pack l).getD j 0 = Hm.word (Hm.nib l j) := by rw [List.getD_eq_getElem?_getD, Hm.pack_at l j hj2]; rfl
  have h1 : Hm.word (Hm.nib l j) < 2 ^ 8 := Hm.word_lt ⟨_, Hm.nib_lt l hl j⟩
  have h2 : (Hm.pack l).getD j 0 < 256 := by rw [hw]; exact h1
  show (if j < k then Hm.one (Hm.pack l) T j else (Hm.pack l).getD j 0) < 256
  split
  · unfold Hm.one
    split
    · split
      · rw [hw]; exact Nat.xor_lt_two_pow (n := 8) h1 (Nat.pow_lt_pow_right (by omega) (by omega))
      · exact h2
    · exact h2
  · exact h2
set_option maxRecDepth 100000 in
set_option maxHeartbeats 2000000 in
theorem back_in (w : World) (A : Option Addr) (c : Nat) (l : List Nat) (hA : In8 w A c l) (C : Option Addr) (d : Nat) (T : List Int) (hC : InI w C d T) (h : l.length ≤ 200) :
    Calls Try.prog 6 #[.slice A l.length c, .slice C T.length d] w fun e w' => e = .returned (.bool true) ∧ Below w.heap.size w w' := by
  have HA := hide hA
  have HC := hide hC
  have hT := hC.len
  clear hA hC
  go_enter Try.func6, Try.ntmps6
  go_wp2_with fail
  refine (pack2 h HA.out.byt HA.out.rd).mono ?_; rintro e w1 ⟨P, cP, rfl, hop, hb1⟩
  have HB1 := hide hb1
  rw [← Hm.tw_zero (Hm.pack l) T] at hop
  obtain ⟨N, hN⟩ : ∃ N, N = 2 * l.length := ⟨_, rfl⟩
  rw [← hN] at hop ⊢
  have hN2 : N ≤ 400 := by omega
  have ht : ((N : Int) != 2 * (l.length : Int)) = false := by simp; omega
  have HN := hide hN
  clear hb1 hN
  go_wp2
  go_loopw [6, 7] (fun v i wr => ∃ k : Nat, k ≤ N ∧ k ≤ T.length ∧ i = .int .i64 k ∧ (∃ m : Nat, m ≤ k ∧ Hid (m = Hm.tc T k) ∧ v = .int .i64 m) ∧ wr.ownsRow w.heap.size 5 1 (.slice P N cP) N (u8s (Hm.tw (Hm.pack l) T k)) ∧ Below w.heap.size w wr) (fun _ i _ => N - (intOf i).toNat)
  case atStart => exact ⟨0, Nat.zero_le _, Nat.zero_le _, rfl, ⟨0, Nat.le_refl _, rfl, rfl⟩, hop, HB1.out⟩
  case round =>
    obtain ⟨k, hk, hkT, rfl, ⟨m, hm, hmc, rfl⟩, hownr, hb⟩ := hrel
    clear hop
    by_cases hlt : k < N ∧ k < T.length
    · obtain ⟨hlt, hlT⟩ := hlt
      obtain ⟨t, ht0⟩ : ∃ t, T[k]? = some t := ⟨_, List.getElem?_eq_getElem hlT⟩
      obtain ⟨b1, o1, rfl, hbb, hc1⟩ := (HC.out.rd.below hb (Nat.le_refl _)).at_ (i64s_get ht0)
      have hkl : k < (Hm.pack l).length := by rw [Hm.pack_length, ← HN.out]; exact hlt
      by_cases h8 : t < 0 ∨ 8 ≤ t
      · have HT : Hid (Hm.tw (Hm.pack l) T (k + 1) = Hm.tw (Hm.pack l) T k) := Hm.tw_skip _ _ _ hkl (Hm.one_out ht0 h8)
        have HF : Hid (Hm.tc T (k + 1) = m) := by show Hm.tc T k + Hm.fl T k = m; rw [Hm.fl_out ht0 h8, hmc.out]; rfl
        clear ht0
        have HB := hide hb
        have HO := hide hownr
        clear hownr hb
        rcases h8 with h8 | h8
        · go_wp2
          go_roundw
          case rel => exact ⟨k + 1, by omega, by omega, by go_num, ⟨m, by omega, HF.out.symm, rfl⟩, by rw [HT.out]; exact HO.out, HB.out⟩
          case measure => simp [intOf]; omega
        · have h80 : ¬ t < 0 := by omega
          go_wp2
          go_roundw
          case rel => exact ⟨k + 1, by omega, by omega, by go_num, ⟨m, by omega, HF.out.symm, rfl⟩, by rw [HT.out]; exact HO.out, HB.out⟩
          case measure => simp [intOf]; omega
      · obtain ⟨t, rfl⟩ := Int.eq_ofNat_of_zero_le (show 0 ≤ t by omega)
        have ht8 : t < 8 := by omega
        have hx0 := Hm.tw_at (Hm.pack l) T k hkl
        have hx256 : (Hm.pack l).getD k 0 < 256 := (tw_byt HA.out.byt T k).at_ hx0
        have HT : Hid ((Hm.tw (Hm.pack l) T k).set k ((Hm.pack l).getD k 0 ^^^ 2 ^ t) = Hm.tw (Hm.pack l) T (k + 1)) := by show _ = _; rw [← Hm.one_in ht0 ht8]; exact Hm.tw_set _ _ _
        have HF : Hid (Hm.tc T (k + 1) = m + 1) := by show Hm.tc T k + Hm.fl T k = m + 1; rw [Hm.fl_in ht0 ht8, hmc.out]
        obtain ⟨g, rfl, hg1, hg2⟩ := own_where hownr (by omega)
        have hc2 := own_cell hownr (u8s_get hx0)
        have hfz := hownr.frozenAt k
        have HX := hide (xor_pow _ t hx256 ht8)
        obtain ⟨x, hx⟩ : ∃ x, x = (Hm.pack l).getD k 0 := ⟨_, rfl⟩
        rw [← hx] at hc2 hx256 HX HT
        have HB := hide hb
        have HO := hide hownr
        have HG1 := hide hg1
        clear ht0 hx0 hx h8 hownr hb hkl hg1
        go_wp2
        go_region
        go_wp2
        go_roundw
        case rel =>
          refine ⟨k + 1, by omega, by omega, by go_num, ⟨m + 1, by omega, HF.out.symm, by go_num⟩, ?_, (HB.out.setCell HG1.out _).drew⟩
          have := own_store HO.out k (.int .u8 ((x ^^^ 2 ^ t : Nat) : Int))
          rw [u8s_set, HT.out] at this
          rw [HX.out]
          exact this
        case measure => simp [intOf]; omega
    · have HK : Hid (k = 2 * l.length ∨ (k < 2 * l.length ∧ T.length ≤ k)) := by show _ ∨ _; have := HN.out; omega
      have HU := hide (unpack2 (A := P) (c := cP) (n := N) (W := Hm.tw (Hm.pack l) T k) (by rw [Hm.tw_length, Hm.pack_length]; exact HN.out.symm) (tw_byt HA.out.byt T k) (by rw [Hm.tw_length, Hm.pack_length]; omega) (own_rd hownr))
      have HB := hide hb
      clear hownr hb
      by_cases hkT2 : k < T.length
      · obtain rfl : k = N := by omega
        clear hlt
        go_wp2_with fail
        refine HU.out.mono ?_; rintro e w2 ⟨⟨X, x, cx, n1, f1, rfl, hox, hv1⟩, hb2⟩
        obtain ⟨rfl, rfl, rfl⟩ := unp_tw HA.out.byt h HK.out hv1
        have HO := hide hox
        have HB2 := hide (below2 HB.out hb2 (Nat.le_refl _))
        have HM := hide hmc.out.symm
        rw [← hmc.out]
        have hq : ((m : Int) == (m : Int)) = true := by simp
        clear hv1 hox hb2
        go_wp2_with fail
        refine (num10 _ _).mono ?_; rintro e w' ⟨rfl, rfl⟩
        go_wp2_with fail
        refine (same_eq (own_rd HO.out) (HA.out.rd.on HB2.out) HA.out.len).mono ?_; rintro e w6 ⟨rfl, hb6⟩
        go_wp2_with fail
        refine (live10 _).mono ?_; rintro e w7 ⟨rfl, n7, rfl⟩
        go_wp2
        go_ret
        exact ⟨rfl, below_drewN (below2 HB2.out hb6 (Nat.le_refl _)) _⟩
      · obtain rfl : k = T.length := by omega
        clear hlt
        go_wp2_with fail
        refine HU.out.mono ?_; rintro e w2 ⟨⟨X, x, cx, n1, f1, rfl, hox, hv1⟩, hb2⟩
        obtain ⟨rfl, rfl, rfl⟩ := unp_tw HA.out.byt h HK.out hv1
        have HO := hide hox
        have HB2 := hide (below2 HB.out hb2 (Nat.le_refl _))
        rw [← hmc.out]
        have hq : ((m : Int) == (m : Int)) = true := by simp
        clear hv1 hox hb2
        go_wp2_with fail
        refine (num10 _ _).mono ?_; rintro e w' ⟨rfl, rfl⟩
        go_wp2_with fail
        refine (same_eq (own_rd HO.out) (HA.out.rd.on HB2.out) HA.out.len).mono ?_; rintro e w6 ⟨rfl, hb6⟩
        go_wp2_with fail
        refine (live10 _).mono ?_; rintro e w7 ⟨rfl, n7, rfl⟩
        go_wp2
        go_ret
        exact ⟨rfl, below_drewN (below2 HB2.out hb6 (Nat.le_refl _)) _⟩
theorem walk_HammingBack (w : World) (A : Option Addr) (c : Nat) (l : List Nat) (hA : In8 w A c l) (C : Option Addr) (d : Nat) (T : List Int) (hC : InI w C d T) :
    Calls Try.prog 6 #[.slice A l.length c, .slice C T.length d] w fun e w' => e = .returned (.bool true) ∧ Below w.heap.size w w' := by
  by_cases h : 200 < l.length
  · exact back_live w A C c d _ _ h
  · exact back_in w A c l hA C d T hC (by omega)
end Go.Proofs.Ytnoefbmdpbljhaa
