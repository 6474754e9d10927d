/- The law ScramBack, walked: it returns true and turns nothing that was there. No conditions. -/
import Derived.Test.YtcbbnddhihmafaaScrG
import Derived.Test.YtcbbnddhihmafaaJoin
import Derived.Deep.RegionHeld3
namespace Go.Proofs.Ytcbbnddhihmafaa
open Go.RowKit
set_option linter.unusedVariables false

theorem Sc.doN_back (s : Nat) {l : List Nat} : Sc.doN s (Sc.doN s l) = l := by
  apply List.ext_getElem?
  intro i
  by_cases hi : i < l.length
  · obtain ⟨x, hx⟩ : ∃ x, l[i]? = some x := ⟨_, List.getElem?_eq_getElem hi⟩
    rw [Sc.doN_get s (Sc.doN_get s hx), hx, ← Nat.xor_assoc, Nat.xor_self, Nat.zero_xor]
  · rw [List.getElem?_eq_none (by rw [Sc.doN_length, Sc.doN_length]; omega), List.getElem?_eq_none (by omega)]
theorem Sc.doN_append (s : Nat) (a b : List Nat) : Sc.doN s (a ++ b) = Sc.doN s a ++ Sc.doN (Sc.go (8 * a.length) s) b := by
  apply List.ext_getElem?
  intro i
  by_cases hi : i < a.length
  · obtain ⟨x, hx⟩ : ∃ x, a[i]? = some x := ⟨_, List.getElem?_eq_getElem hi⟩
    rw [List.getElem?_append_left (by rw [Sc.doN_length]; exact hi), Sc.doN_get s hx]
    exact Sc.doN_get s (by rw [List.getElem?_append_left hi]; exact hx)
  · rw [List.getElem?_append_right (by rw [Sc.doN_length]; omega), Sc.doN_length]
    by_cases hj : i - a.length < b.length
    · obtain ⟨x, hx⟩ : ∃ x, b[i - a.length]? = some x := ⟨_, List.getElem?_eq_getElem hj⟩
      have h1 : (a ++ b)[i]? = some x := by rw [List.getElem?_append_right (by omega)]; exact hx
      rw [Sc.doN_get s h1, Sc.doN_get _ hx, ← Sc.go_add]
      congr 4; omega
    · rw [List.getElem?_eq_none (by rw [Sc.doN_length, List.length_append]; omega), List.getElem?_eq_none (by rw [Sc.doN_length]; omega)]
/-- two lists, xored. -/
def xorL (a b : List Nat) : List Nat := List.zipWith (· ^^^ ·) a b
theorem xorL_length (a b : List Nat) (h : a.length = b.length) : (xorL a b).length = a.length := by simp [xorL, h]
theorem xorL_get {a b : List Nat} {i x y : Nat} (ha : a[i]? = some x) (hb : b[i]? = some y) : (xorL a b)[i]? = some (x ^^^ y) := by simp [xorL, List.getElem?_zipWith, ha, hb]
theorem xorL_byt {a b : List Nat} (ha : Byt a) (hb : Byt b) : Byt (xorL a b) := by
  intro z hz
  obtain ⟨i, hi⟩ := List.getElem?_of_mem hz
  simp only [xorL, List.getElem?_zipWith] at hi
  cases hx : a[i]? with
  | none => rw [hx] at hi; simp at hi
  | some x =>
    cases hy : b[i]? with
    | none => rw [hx, hy] at hi; simp at hi
    | some y =>
      rw [hx, hy] at hi
      simp at hi
      subst hi
      exact Nat.xor_lt_two_pow (n := 8) (ha.at_ hx) (hb.at_ hy)
theorem Sc.doN_xor (s : Nat) {a b : List Nat} (h : a.length = b.length) {i x y : Nat} (hx : (Sc.doN s a)[i]? = some x) (hy : b[i]? = some y) : (Sc.doN s (xorL a b))[i]? = some (x ^^^ y) := by
  have hi : i < a.length := by have := (List.getElem?_eq_some_iff.1 hy).1; omega
  obtain ⟨u, hu⟩ : ∃ u, a[i]? = some u := ⟨_, List.getElem?_eq_getElem hi⟩
  rw [Sc.doN_get s hu] at hx
  injection hx with hx
  subst hx
  rw [Sc.doN_get s (xorL_get hu hy), Nat.xor_assoc]

theorem byt_app {a b : List Nat} (ha : Byt a) (hb : Byt b) : Byt (a ++ b) := by
  intro x hx; rcases List.mem_append.1 hx with h | h
  · exact ha x h
  · exact hb x h
theorem doI_of (s : Int) {l : List Nat} (h : l.length ≤ 600) : Sc.doI s l = Sc.doN (Sc.own s) l := by unfold Sc.doI; rw [if_neg (by omega)]
theorem cnt8 (n : Nat) (h : n ≤ 300) : Sc.cnt ((8 * n : Nat) : Int) = 8 * n := by unfold Sc.cnt; omega
theorem own_go (n s : Nat) (h : s < 32768) : Sc.own ((Sc.go n s : Nat) : Int) = Sc.go n s := own_nat _ (Sc.go_lt _ _ h)

/-- Do, of at most 600 bytes. -/
theorem do_small (s : Int) (A : Option Addr) (c : Nat) (l : List Nat) (hl : l.length ≤ 600) (hB : Byt l) (w : World) (hA : Rd w.heap.size w A (u8s l)) : Calls Try.prog 24 #[.int .i64 s, .slice A l.length c] w fun e w' =>
    ∃ g c', e = .returned (.slice g l.length c') ∧ Rd w'.heap.size w' g (u8s (Sc.doN (Sc.own s) l)) ∧ Below w.heap.size w w' := by
  refine (do_all s A c l (by omega) hB w hA).mono fun e w' ⟨g, c', he, hr, _, hb⟩ => ⟨g, c', ?_, ?_, hb⟩
  · rw [he, doI_of s hl, Sc.doN_length]
  · rwa [doI_of s hl] at hr
/-- the same, at a length that is told otherwise. -/
theorem do_at (s : Int) (A : Option Addr) (n c : Nat) (l : List Nat) (hn : n = l.length) (hl : l.length ≤ 600) (hB : Byt l) (w : World) (hA : Rd w.heap.size w A (u8s l)) : Calls Try.prog 24 #[.int .i64 s, .slice A n c] w fun e w' =>
    ∃ g c', e = .returned (.slice g n c') ∧ Rd w'.heap.size w' g (u8s (Sc.doN (Sc.own s) l)) ∧ Below w.heap.size w w' := by subst hn; exact do_small s A c l hl hB w hA
theorem same_at_len {A C : Option Addr} {n m c d B : Nat} {l : List Nat} {w : World} (hn : n = l.length) (hm : m = l.length) (hA : Rd B w A (u8s l)) (hC : Rd B w C (u8s l)) (hl : l.length ≤ 9223372036854775807) :
    Calls Try.prog 21 #[.slice A n c, .slice C m d] w fun e w' => e = .returned (.bool true) ∧ Below w.heap.size w w' := by subst hn; subst hm; exact same_eq hA hC hl
/-- Join of two. -/
theorem join_two (w : World) (A C : Option Addr) (n m c d : Nat) (l r : List Nat) (hn : n = l.length) (hm : m = r.length) (hl : l.length ≤ 600) (hr : r.length ≤ 600) (hA : Rd w.heap.size w A (u8s l)) (hC : Rd w.heap.size w C (u8s r)) :
    Calls Try.prog 47 #[.slice (some ⟨w.heap.size, 0, none⟩) 2 2] (w.alloc (.cells #[.slice A n c, .slice C m d] 28)) fun e w' =>
    ∃ g c', e = .returned (.slice g (l ++ r).length c') ∧ Rd w'.heap.size w' g (u8s (l ++ r)) ∧ Below w.heap.size w w' := by
  subst hn
  subst hm
  have hb0 : Below w.heap.size w (w.alloc (.cells #[.slice A l.length c, .slice C r.length d] 28)) := (Below.refl _ _).alloc (Nat.le_refl _) _
  have hRL : RdL (w.alloc (.cells #[.slice A l.length c, .slice C r.length d] 28)).heap.size (w.alloc (.cells #[.slice A l.length c, .slice C r.length d] 28)) (some ⟨w.heap.size, 0, none⟩) [l, r] := by
    refine ⟨[.slice A l.length c, .slice C r.length d], rfl, by simpa using rd_lit w [.slice A l.length c, .slice C r.length d] 28, ?_⟩
    intro i v x hv hx
    match i, hv, hx with
    | 0, hv, hx => simp at hv hx; subst hv; subst hx; exact ⟨A, c, rfl, hA.on hb0⟩
    | 1, hv, hx => simp at hv hx; subst hv; subst hx; exact ⟨C, d, rfl, hC.on hb0⟩
    | n + 2, hv, hx => simp at hv
  have := join_any (some ⟨w.heap.size, 0, none⟩) 2 [l, r] (by simp) (by simp; omega) _ hRL
  refine this.mono fun e w' ⟨v, he, ho, hb⟩ => ?_
  have hf : [l, r].flatten = l ++ r := by simp
  rw [hf] at ho
  obtain ⟨g, c', rfl, _⟩ := own_val ho
  exact ⟨g, c', he, own_rd ho, below2 hb0 hb (Nat.le_refl _)⟩

set_option maxRecDepth 100000 in
set_option maxHeartbeats 4000000 in
theorem walk_ScramBack (w : World) (s : Int) (hs : Fit s) (a : Option Addr) (ca : Nat) (l : List Nat) (hi : In8 w a ca l) (b : Option Addr) (cb : Nat) (r : List Nat) (hj : In8 w b cb r) :
    Calls Try.prog 12 #[.int .i64 s, .slice a l.length ca, .slice b r.length cb] w fun e w' => e = .returned (.bool true) ∧ Below w.heap.size w w' := by
  clear hs
  by_cases hbig : 300 < l.length ∨ 300 < r.length
  · have h1 := hi.reach
    have h2 := hj.reach
    rcases (show 300 < l.length ∨ (l.length ≤ 300 ∧ 300 < r.length) by omega) with g | ⟨g, g'⟩
    all_goals
      clear hbig hi hj
      go_enter Try.func12, Try.ntmps12
      go_wp2_with (go_at_call 15; (with_reducible refine (live09 _).mono ?_); rintro e w' ⟨rfl, hb⟩)
      go_ret
      exact ⟨rfl, hb⟩
  · have hl1 : (l.length : Int) ≤ 300 := by omega
    have hr1 : (r.length : Int) ≤ 300 := by omega
    have hd1 : decide ((300 : Int) < (l.length : Int)) = false := by simp; omega
    have hd2 : decide ((300 : Int) < (r.length : Int)) = false := by simp; omega
    have HI := hide hi
    have HJ := hide hj
    clear hbig hi hj
    go_enter Try.func12, Try.ntmps12
    go_wp2_with fail
    (with_reducible refine (do_small s a ca l (by omega) HI.out.byt w HI.out.rd).mono ?_); rintro e w1 ⟨A1, c1, rfl, hx1, hb1⟩
    go_wp2_with fail
    (with_reducible refine (do_at s A1 l.length c1 (Sc.doN (Sc.own s) l) (Sc.doN_length _ _).symm (by rw [Sc.doN_length]; omega) (Sc.doN_byt _ HI.out.byt) w1 hx1).mono ?_); rintro e w2 ⟨A2, c2, rfl, hx2, hb2⟩
    rw [Sc.doN_back] at hx2
    have hB2 := below2 hb1 hb2 (Nat.le_refl _)
    have hx1' := hx1.on hb2
    clear hb1 hb2 hx1
    go_wp2_with fail
    (with_reducible refine (same_eq hx2 (HI.out.rd.on hB2) (by omega)).mono ?_); rintro e w3 ⟨rfl, hb3⟩
    have hB3 := below2 hB2 hb3 (Nat.le_refl _)
    have hx3 := hx1'.on hb3
    clear hb3 hx2 hx1' hB2
    have hneq : ((l.length : Int) != (l.length : Int)) = false := by simp
    go_wp2_with fail
    (with_reducible refine (state_any s _ w3).mono ?_); rintro e w' ⟨rfl, rfl⟩
    go_wp2_with fail
    have hcn : Sc.cnt (8 * (l.length : Int)) = 8 * l.length := by have := cnt8 l.length (by omega); rwa [show ((8 * l.length : Nat) : Int) = 8 * (l.length : Int) by omega] at this
    (with_reducible refine (do_small _ b cb r (by omega) HJ.out.byt w3 (HJ.out.rd.on hB3)).mono ?_); rintro e w4 ⟨A4, c4, rfl, hy4, hb4⟩
    rw [hcn, own_go _ _ (Sc.own_lt s)] at hy4
    have hB4 := below2 hB3 hb4 (Nat.le_refl _)
    have hx4 := hx3.on hb4
    clear hb4 hx3 hB3 hcn
    go_wp2_with fail
    (with_reducible refine (join_two w4 a b l.length r.length ca cb l r rfl rfl (by omega) (by omega) (HI.out.rd.on hB4) (HJ.out.rd.on hB4)).mono ?_); rintro e w5 ⟨A5, c5, rfl, hz5, hb5⟩
    have hB5 := below2 hB4 hb5 (Nat.le_refl _)
    have hx5 := hx4.on hb5
    have hy5 := hy4.on hb5
    clear hb5 hx4 hy4 hB4
    go_wp2_with fail
    (with_reducible refine (do_at s A5 (l.length + r.length) c5 (l ++ r) (by simp) (by simp; omega) (byt_app HI.out.byt HJ.out.byt) w5 hz5).mono ?_); rintro e w6 ⟨A6, c6, rfl, hz6, hb6⟩
    rw [Sc.doN_append] at hz6
    have hB6 := below2 hB5 hb6 (Nat.le_refl _)
    have hx6 := hx5.on hb6
    have hy6 := hy5.on hb6
    clear hb6 hx5 hy5 hB5 hz5
    go_wp2_with fail
    (with_reducible refine (join_two w6 A1 A4 l.length r.length c1 c4 _ _ (Sc.doN_length _ _).symm (Sc.doN_length _ _).symm (by rw [Sc.doN_length]; omega) (by rw [Sc.doN_length]; omega) hx6 hy6).mono ?_); rintro e w7 ⟨A7, c7, rfl, hz7, hb7⟩
    have hB7 := below2 hB6 hb7 (Nat.le_refl _)
    have hx7 := hx6.on hb7
    have hz6' := hz6.on hb7
    clear hb7 hx6 hy6 hB6 hz6
    go_wp2_with fail
    (with_reducible refine (same_at_len (by simp [Sc.doN_length]) (by simp [Sc.doN_length]) hz6' hz7 (by simp [Sc.doN_length]; omega)).mono ?_); rintro e w8 ⟨rfl, hb8⟩
    have hB8 := below2 hB7 hb8 (Nat.le_refl _)
    have hx8 := hx7.on hb8
    clear hb8 hx7 hB7 hz6' hz7
    have HX := hide hx8
    have HB := hide hB8
    clear hx8 hB8
    by_cases hlen : l.length = r.length
    · obtain ⟨i0, hi0, hz0, hz1, hz2⟩ := info_parts Try.infoU8
      have hne : ((l.length : Int) != (r.length : Int)) = false := by rw [hlen]; simp
      have HLEN := hide hlen
      have hlr : l.length ≤ r.length := by omega
      have hrl : r.length ≤ l.length := by omega
      clear hlen
      have HA8 := hide (HI.out.rd.on HB.out)
      have HB8 := hide (HJ.out.rd.on HB.out)
      go_wp2_with fail
      go_loopw [9, 10] (fun v i wr => ∃ k : Nat, k ≤ l.length ∧ i = .int .i64 k ∧ wr.ownsRow w8.heap.size 5 1 v k (u8s ((xorL l r).take k)) ∧ Below w8.heap.size w8 wr) (fun _ i _ => l.length - (intOf i).toNat)
      case atStart => exact ⟨0, Nat.zero_le _, rfl, World.ownsRow_nil _ _ _ _, Below.refl _ _⟩
      case round =>
        obtain ⟨k, hk, rfl, hownr, hb⟩ := hrel
        by_cases hlt : k < l.length
        · obtain ⟨x, hx⟩ : ∃ x, l[k]? = some x := ⟨_, List.getElem?_eq_getElem hlt⟩
          obtain ⟨y, hy⟩ : ∃ y, r[k]? = some y := ⟨_, List.getElem?_eq_getElem (by omega)⟩
          obtain ⟨b1, o1, rfl, hbb1, hc1⟩ := (HA8.out.below hb (Nat.le_refl _)).at_ (u8s_get hx)
          obtain ⟨b2, o2, rfl, hbb2, hc2⟩ := (HB8.out.below hb (Nat.le_refl _)).at_ (u8s_get hy)
          have HTK : Hid ((xorL l r).take (k + 1) = (xorL l r).take k ++ [x ^^^ y]) := by show _ = _; rw [List.take_add_one, xorL_get hx hy]; rfl
          have HXO := hide (u8_xor_nat x y (HI.out.byt.at_ hx) (HJ.out.byt.at_ hy))
          clear hx hy
          have g1 : (k : Int) < (l.length : Int) := by omega
          have g2 : (k : Int) < (r.length : Int) := by omega
          have hB := hb.size
          have hl2 : k + 1 ≤ 9223372036854775807 := by omega
          have hl3 : (k + 1) * 1 ≤ 140737488355328 := by omega
          go_wp2
          go_region_held3 (fun w' => w'.cell? ⟨b1, o1 + k, none⟩ = some (.int .u8 (x : Int)) ∧ w'.cell? ⟨b2, o2 + k, none⟩ = some (.int .u8 (y : Int))) (first | exact keep2 (below_app (Below.refl _ wr).drew hownr hg1 hB) hbb1 hbb2 hc1 hc2 | go_keep)
            ((refine step_app1 wr.drew (by rfl) (.tmp 69) (.tmp 79) 28 (by rfl) w8.heap.size 5 i0 (.int .u8 0) 1 Try.underlying28 hi0 hz0 hz1 hz2 (by rfl) u9 k (u8s ((xorL l r).take k)) (by rfl) hownr (.int .u8 (bits .xor .u8 (x : Int) (y : Int))) (by rfl) (by rfl) hl2 hl3 hB ?_; intro v' w2 hown1 hg1 hat1))
          go_wp2
          go_roundw
          case rel =>
            refine ⟨k + 1, by omega, by go_num, ?_, below_app hb.drew hownr hg1 hB⟩
            rw [HTK.out, u8s_app]
            rw [HXO.out] at hown1
            exact hown1
          case measure => simp [intOf]; omega
        · have hkl : k = l.length := by omega
          obtain ⟨A9, c9, rfl, hc9⟩ := own_val hownr
          have ht : (xorL l r).take k = xorL l r := by rw [hkl, ← xorL_length l r HLEN.out]; exact List.take_length
          rw [ht] at hownr
          have HR := hide (own_rd hownr)
          have HKL := hide hkl
          have hge : l.length ≤ k := by omega
          have HB9 := hide (below2 HB.out hb (Nat.le_refl _))
          have HX9 := hide ((HX.out.below hb (Nat.le_refl _)).more hb.size)
          have HR9 := hide ((HB8.out.below hb (Nat.le_refl _)).more hb.size)
          clear hkl ht hownr hlt
          go_wp2_with fail
          (with_reducible refine (do_at s A9 k c9 (xorL l r) (by rw [xorL_length l r HLEN.out]; exact HKL.out) (by rw [xorL_length l r HLEN.out]; omega) (xorL_byt HI.out.byt HJ.out.byt) _ HR.out).mono ?_)
          rintro e w10 ⟨A10, c10, rfl, hz10, hb10⟩
          have HZ := hide hz10
          have HX10 := hide (HX9.out.on hb10)
          have HR10 := hide (HR9.out.on hb10)
          have HB10 := hide (below2 HB9.out hb10 (Nat.le_refl _))
          have hneq2 : ((k : Int) != (k : Int)) = false := by simp
          clear hz10 hb10 hb
          go_wp2_with fail
          go_loopw [12] (fun i wr => ∃ j : Nat, j ≤ k ∧ i = .int .i64 j ∧ ∃ nd, wr = w10.drewN nd) (fun i _ => k - (intOf i).toNat)
          case atStart => exact ⟨0, Nat.zero_le _, rfl, 0, rfl⟩
          case round =>
            obtain ⟨j, hj, rfl, nd, rfl⟩ := hrel
            by_cases hjk : j < k
            · obtain ⟨x, hx⟩ : ∃ x, (Sc.doN (Sc.own s) l)[j]? = some x := ⟨_, List.getElem?_eq_getElem (by rw [Sc.doN_length]; omega)⟩
              obtain ⟨y, hy⟩ : ∃ y, r[j]? = some y := ⟨_, List.getElem?_eq_getElem (by omega)⟩
              have hz := Sc.doN_xor (Sc.own s) HLEN.out hx hy
              obtain ⟨b1, o1, rfl, _, hc1⟩ := HX10.out.at_ (u8s_get hx)
              obtain ⟨b2, o2, rfl, _, hc2⟩ := HR10.out.at_ (u8s_get hy)
              obtain ⟨b3, o3, rfl, _, hc3⟩ := HZ.out.at_ (u8s_get hz)
              have hxo : (((x ^^^ y : Nat) : Int) != bits .xor .u8 (x : Int) (y : Int)) = false := by
                rw [u8_xor_nat x y ((Sc.doN_byt _ HI.out.byt).at_ hx) (HJ.out.byt.at_ hy)]; simp
              have g1 : (j : Int) < (k : Int) := by omega
              have g2 : (j : Int) < (l.length : Int) := by omega
              have g3 : (j : Int) < (r.length : Int) := by omega
              have g0 : (0 : Int) ≤ (j : Int) := by omega
              clear hx hy hz
              go_wp2
              go_quiet (fail)
              go_wp2
              go_roundw
              case rel => exact ⟨j + 1, by omega, by go_num, _, rfl⟩
              case measure => simp [intOf]; omega
            · go_wp2_with fail
              (with_reducible refine (live09 _).mono ?_); rintro e w11 ⟨rfl, hb11⟩
              have hfin := below2 (below_drewN HB10.out nd) hb11 (Nat.le_refl _)
              go_wp2
              go_ret
              exact ⟨rfl, hfin⟩
    · have hne : ((l.length : Int) != (r.length : Int)) = true := by simp; omega
      clear hlen
      go_wp2_with fail
      (with_reducible refine (live09 _).mono ?_); rintro e w9 ⟨rfl, hb9⟩
      have hfin := below2 HB.out hb9 (Nat.le_refl _)
      go_wp2
      go_ret
      exact ⟨rfl, hfin⟩
end Go.Proofs.Ytcbbnddhihmafaa
