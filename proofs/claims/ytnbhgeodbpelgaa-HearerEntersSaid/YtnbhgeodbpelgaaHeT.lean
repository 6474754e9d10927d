/- Layer 21: the law HearerEnters, walked. No conditions. -/
import Derived.Test.YtnbhgeodbpelgaaHeS
namespace Go.Proofs.Ytnbhgeodbpelgaa
open Go.RowKit Go.Maps
set_option linter.unusedVariables false
attribute [local go_sem ↓] Go.wp_at_zero Go.wp_at_succ

theorem sameE (A C : Option Addr) (c d B n k : Nat) (l m : List Nat) (w : World) (hn : l.length = n) (hk : m.length = k) (hA : Rd B w A (u8s l)) (hC : Rd B w C (u8s m)) (hl : n ≤ 9223372036854775807) {b : Bool} (hb : (l == m) = b) :
    Calls Try.prog 32 #[.slice A n c, .slice C k d] w fun e w' => e = .returned (.bool b) ∧ Below w.heap.size w w' := by
  subst hn hk hb
  exact (same_any A C c d B l m w hA hC hl).mono fun e w' ⟨he, n, hn⟩ => ⟨he, by rw [hn]; exact below_drewN (Below.refl _ _) n⟩
theorem rd_one (w : World) (x : Nat) : Rd (w.alloc (.cells #[.int .u8 (x : Nat)] 5)).heap.size (w.alloc (.cells #[.int .u8 (x : Nat)] 5)) (some ⟨w.heap.size, 0, none⟩) (u8s [x]) := fun _ =>
  ⟨w.heap.size, 0, rfl, by simp, fun j u hu => by
    have hj : j < 1 := (List.getElem?_eq_some_iff.1 hu).1
    obtain rfl : j = 0 := by omega
    exact (Blk.new w 5 [.int .u8 (x : Nat)]).cell (i := 0) (by simpa [u8s] using hu)⟩
/-- a text of one byte that was made here, taken. -/
theorem hx_one {w : World} {B gx room : Nat} {s s' : Hst} {F : Nat → Prop} (h : He w B gx room s F) (hd : s.ent ≤ 1000000) (hT : tot s.t ≤ 900000) (k lb : Int) (x : Nat) (hx : x < 256) {ts : List Prb} {q : Nat} (hs : takeHS room s k lb [x] = s') (ht : takeHT s k = ts) (hq : ts.length = q) :
    Calls Try.prog 33 #[.pointer (some ⟨gx, 0, none⟩), .agg #[.int .i64 k, .int .i64 lb, .slice (some ⟨w.heap.size, 0, none⟩) 1 1]] (w.alloc (.cells #[.int .u8 (x : Nat)] 5)) fun e w' =>
    ∃ A c F', e = .returned (.slice A q c) ∧ He w' B gx room s' F' ∧ Turn F F' w w' := by
  refine (hx_take (h.on ((Below.refl _ _).alloc (Nat.le_refl _) _)) hd hT k lb _ 1 1 [x] rfl (rd_one w x) (fun _ b o s2 e => ?_) (by intro y hy; simp at hy; omega) (by simp) hs ht hq).mono ?_
  · injection e with e; injection e with e1 _; subst e1
    exact fun hf => by have := (h.foot _ hf).2; omega
  · rintro e w1 ⟨A, c, F', he, _, hm, ht2⟩
    exact ⟨A, c, F', he, hm, ((Turn.refl F w).alloc _).trans ht2⟩
/-- what came in is off what the call made. -/
theorem he_offE {w wr : World} {gx room : Nat} {s : Hst} {F : Nat → Prop} {A : Option Addr} {l : List Nat} (h : He wr w.heap.size gx room s F) (hA : Rd w.heap.size w A (u8s l)) : 0 < (u8s l).length → ∀ b o s', A = some ⟨b, o, s'⟩ → ¬ F b := fun hn b o s' e hf => by
  obtain ⟨b', o', e', hb, _⟩ := hA hn
  rw [e] at e'
  injection e' with e'
  injection e' with e1
  have := (h.foot b hf).1
  omega
/-- the hearer and the map, off one another. -/
structure En (w0 wr : World) (gx b : Nat) (s : Hst) (F : Nat → Prop) (n : Nat) (f : Nat → Nat) : Prop where
  h : He wr w0.heap.size gx 2 s F
  mp : mapC wr b n f
  lo : w0.heap.size ≤ b
  off : ¬ F b
  bel : Below w0.heap.size w0 wr
section
variable {w0 wr w1 : World} {gx b n : Nat} {s s' : Hst} {F F' : Nat → Prop} {f f' : Nat → Nat}
theorem En.on (h : En w0 wr gx b s F n f) (hb : Below wr.heap.size wr w1) : En w0 w1 gx b s F n f := ⟨h.h.on hb, mapC_same h.mp (hb.block _ (mapC_lt h.mp)), h.lo, h.off, below2 h.bel hb (Nat.le_refl _)⟩
theorem En.turn (h : En w0 wr gx b s F n f) (ht : Turn F F' wr w1) (hm : He w1 w0.heap.size gx 2 s' F') : En w0 w1 gx b s' F' n f :=
  ⟨hm, mapC_same h.mp (ht.block _ (mapC_lt h.mp) h.off), h.lo, fun hf => (ht.new _ hf).elim h.off (fun h2 => by have := mapC_lt h.mp; omega), ht.below h.bel h.h.foot h.bel.size⟩
theorem En.put (h : En w0 wr gx b s F n f) (hg : wr.grownBy w1 (some b)) (hm : mapC w1 b (n + 1) f') : En w0 w1 gx b s F (n + 1) f' := by
  have ht : Turn (fun k => k = b) (fun k => k = b) wr w1 := Turn.of_grown hg (by intro k e; cases e; rfl) (fun k hk => .inl hk)
  exact ⟨h.h.kept (fun k hf => ht.block k (h.h.foot k hf).2 (fun e => h.off (e ▸ hf))) ht.size, hm, h.lo, h.off, ht.below h.bel (fun k hk => by have e : k = b := hk; subst e; exact ⟨h.lo, mapC_lt h.mp⟩) h.bel.size⟩
end
def KeepE1 (w wr : World) (gx N k : Nat) : Prop := ∃ F, He wr w.heap.size gx 2 (hE (N + k) N []) F ∧ Below w.heap.size w wr
def KeepE2 (w wr : World) (gx b N : Nat) (m : List Nat) (k : Nat) : Prop := ∃ o t f F n, En w wr gx b (hE o N t) F n f ∧ EnI N m t f 0 ∧ n ≤ k ∧ tot t ≤ k ∧ N + 60 ≤ o + 2 * k
def KeepE3 (w wr : World) (gx N : Nat) (m : List Nat) (k : Nat) : Prop := ∃ o t f F, He wr w.heap.size gx 2 (hE o N t) F ∧ Below w.heap.size w wr ∧ EnI N m t f k ∧ tot t ≤ 20 + k ∧ N + 20 ≤ o + k
set_option maxRecDepth 100000 in
theorem enters_bad (w : World) (N : Nat) (A C : Option Addr) (c d n k : Nat) (h : 20 < N ∨ 20 < n ∨ 64 < k) :
    Calls Try.prog 5 #[.int .u64 (N : Nat), .slice A n c, .slice C k d] w fun e w' => e = .returned (.bool true) ∧ Below w.heap.size w w' := by
  by_cases h1 : (20 : Int) < (N : Int)
  · clear h
    go_enter Try.func5, Try.ntmps5
    go_wp2_with fail
    refine (live21 _).mono ?_; rintro e w' ⟨rfl, hb⟩
    go_wp2
    go_ret
    exact ⟨rfl, hb⟩
  · by_cases h2 : (20 : Int) < (n : Int)
    · clear h
      go_enter Try.func5, Try.ntmps5
      go_wp2_with fail
      refine (live21 _).mono ?_; rintro e w' ⟨rfl, hb⟩
      go_wp2
      go_ret
      exact ⟨rfl, hb⟩
    · have h3 : (64 : Int) < (k : Int) := by omega
      clear h
      go_enter Try.func5, Try.ntmps5
      go_wp2_with fail
      refine (live21 _).mono ?_; rintro e w' ⟨rfl, hb⟩
      go_wp2
      go_ret
      exact ⟨rfl, hb⟩
set_option maxRecDepth 100000 in
set_option maxHeartbeats 8000000 in
theorem enters_in (w : World) (N : Nat) (A C : Option Addr) (c d : Nat) (l m : List Nat) (hl : In8 w A c l) (hm : In8 w C d m) (hN : N ≤ 20) (hl20 : l.length ≤ 20) (hm64 : m.length ≤ 64) :
    Calls Try.prog 5 #[.int .u64 (N : Nat), .slice A l.length c, .slice C m.length d] w fun e w' => e = .returned (.bool true) ∧ Below w.heap.size w w' := by
  have HL := hide hl
  have HM := hide hm
  have hcn := he_new 2 (by omega) (by omega) N (by omega) w
  rw [hE_new hN] at hcn
  have HCN := hide hcn
  have h64 := hide hm64
  have n1 : ¬ (20 : Int) < (N : Int) := by omega
  have n2 : ¬ (20 : Int) < (l.length : Int) := by omega
  have n3 : ¬ (64 : Int) < (m.length : Int) := by omega
  clear hl hm hcn
  go_enter Try.func5, Try.ntmps5
  go_wp2_with fail
  refine HCN.out.mono ?_; rintro e w1 ⟨gx, F1, rfl, hc1, hb1⟩
  have HK1 : Hid (KeepE1 w w1 gx N 0) := ⟨F1, hc1, hb1⟩
  clear hc1 hb1 HCN n1 n2 n3
  go_wp2_with fail
  refine (num21 _ _).mono ?_; rintro e w' ⟨rfl, rfl⟩
  go_wp2
  go_loopw [9] (fun i wr => ∃ k : Nat, k ≤ 60 ∧ i = .int .i64 k ∧ Hid (KeepE1 w wr gx N k)) (fun i _ => 60 - (intOf i).toNat)
  case atStart => exact ⟨0, Nat.zero_le _, rfl, HK1.out⟩
  case round =>
    obtain ⟨k, hk, rfl, hrel⟩ := hrel
    obtain ⟨F, hc, hb⟩ := hrel.out
    have HC := hide hc
    have HB := hide hb
    clear hrel hc hb HK1
    by_cases hlt : k < 60
    · have HT := hide (hx_tick (s' := hE (N + (k + 1)) N []) (ts := [(0, 0, [])]) HC.out (hE_tick (by omega) []) (hE_told (by omega) []) rfl)
      go_wp2_with fail
      refine HT.out.mono ?_; rintro e w5 ⟨A5, c5, F5, rfl, _, hc5, ht5⟩
      have HK5 : Hid (KeepE1 w w5 gx N (k + 1)) := ⟨F5, hc5, ht5.below HB.out HC.out.foot HB.out.size⟩
      clear hc5 ht5 HT
      go_wp2
      go_roundw
      case rel => exact ⟨k + 1, by omega, by go_num, HK5.out⟩
      case measure => simp [intOf]; omega
    · obtain rfl : k = 60 := by omega
      have hmm := @run_makeMap Try.prog
      have hba : Below wr.heap.size wr (wr.alloc (.map #[] 0)) := (Below.refl _ _).alloc (Nat.le_refl _) _
      have HEN : Hid (KeepE2 w (wr.alloc (.map #[] 0)) gx wr.heap.size N m 0) :=
        ⟨_, _, _, F, 0, ⟨HC.out.on hba, mapC_new wr, HB.out.size, fun hf => by have := (HC.out.foot _ hf).2; omega, below2 HB.out hba (Nat.le_refl _)⟩, EnI.new N m, Nat.le_refl _, Nat.le_refl _, by omega⟩
      obtain ⟨bm, hbm⟩ : ∃ bm, bm = wr.heap.size := ⟨_, rfl⟩
      obtain ⟨wm, hwm⟩ : ∃ wm, wm = wr.alloc (.map #[] 0) := ⟨_, rfl⟩
      rw [← hbm, ← hwm] at HEN
      have HWM := hide hwm
      have HBM := hide hbm
      clear hba hwm hbm HC HB
      go_wp2
      rw [← HWM.out, ← HBM.out, show ((60 : Nat) : Int) = 60 from rfl]
      clear hmm hk hlt
      go_loopw [11] (fun i wr => ∃ k : Nat, k ≤ l.length ∧ i = .int .i64 k ∧ Hid (KeepE2 w wr gx bm N m k)) (fun i _ => l.length - (intOf i).toNat)
      case atStart => exact ⟨0, Nat.zero_le _, rfl, HEN.out⟩
      case round =>
        obtain ⟨k, hk, rfl, hrel⟩ := hrel
        obtain ⟨o, t, f, F, n, hen, hi, hnk, htk, hok⟩ := hrel.out
        have HE := hide hen
        have HI := hide hi
        have HNK := hide (And.intro hnk (And.intro htk hok))
        clear hrel hen hi hnk htk hok HEN HWM HBM
        by_cases hlt : k < l.length
        · obtain ⟨x, hx⟩ : ∃ x, l[k]? = some x := ⟨_, List.getElem?_eq_getElem hlt⟩
          obtain ⟨b1, o1, rfl, hbb, hc1⟩ := (HL.out.rd.below HE.out.bel (Nat.le_refl _)).at_ (u8s_get hx)
          have hx256 : x < 256 := HL.out.byt x (List.mem_of_getElem? hx)
          obtain ⟨v, hv⟩ : ∃ v, v = f x := ⟨_, rfl⟩
          have hlk := mapC_get HE.out.mp hx256
          rw [← hv] at hlk
          have HV := hide hv
          have HX := hide hx256
          have g0 : (0 : Int) ≤ (k : Int) := by omega
          have g3 : (k : Int) < (l.length : Int) := by omega
          have HOT := hide (fun (W : World) (F' : Nat → Prop) (o' : Nat) (t' : List Trow) (ho : 0 < o') (ht : tot t' ≤ 1000) (h : He W w.heap.size gx 2 (hE o' N t') F') (hb : Below w.heap.size w W) => hx_take (s' := hE (o' - 1) N t') (ts := []) h (by simp [hE]) (by show tot t' ≤ _; omega) 3 1 C m.length d m rfl ((HM.out.rd.below hb (Nat.le_refl _)).more hb.size) (he_offE h HM.out.rd) HM.out.byt (by have := h64.out; omega) (hE_other ho t' m) rfl rfl)
          clear hx hbb hv hx256
          by_cases hvN : v < N
          · have hb2 : Below wr.heap.size wr (wr.alloc (.cells #[.int .u8 (x : Nat)] 5)) := (Below.refl _ _).alloc (Nat.le_refl _) _
            have HEA := hide (HE.out.on hb2)
            have h1 : (v : Int) < (N : Int) := by omega
            obtain ⟨bb, hbb⟩ : ∃ bb, bb = (m == [x]) := ⟨_, rfl⟩
            have HSA := hide (sameE C (some ⟨wr.heap.size, 0, none⟩) d 1 _ m.length 1 m [x] _ rfl rfl ((HM.out.rd.below HEA.out.bel (Nat.le_refl _)).more HEA.out.bel.size) (rd_one wr x) (by have := h64.out; omega) hbb.symm)
            have HBB := hide hbb
            clear hb2 hbb
            cases bb with
            | false =>
              go_wp2_with fail
              refine HSA.out.mono ?_; rintro e w5 ⟨rfl, hb5⟩
              have HE5 := hide (HEA.out.on hb5)
              have hlk5 := mapC_get HE5.out.mp HX.out
              rw [← HV.out] at hlk5
              obtain ⟨w6, hrun, hm6, hg6⟩ := mapC_set (t := v + 1) HE5.out.mp (by have := HNK.out.1; omega) HX.out (by omega)
              have HE6 := hide (HE5.out.put hg6 hm6)
              have hv1000 : v ≤ 1000000 := by omega
              rw [show ((v + 1 : Nat) : Int) = (v : Int) + 1 by omega] at hrun
              have hne : [x] ≠ m := fun e => by have := HBB.out; rw [e] at this; simp at this
              have hi6 := HI.out.tell hne (by rw [← HV.out]; exact hvN)
              rw [← HV.out] at hi6
              have HI6 := hide hi6
              have HT6 := hide (hx_one (s' := hE (o - 1) N (addT t 0 [x])) (ts := []) HE6.out.h (by simp [hE]) (by show tot t ≤ _; have := HNK.out.2.1; omega) 3 0 x HX.out (hE_data (by have := HNK.out.2.2; omega) HI6.out.le) rfl rfl)
              clear hb5 hm6 hg6 hi6 hne HSA
              go_wp2_with fail
              refine HT6.out.mono ?_; rintro e w7 ⟨A7, c7, F7, rfl, hc7, ht7⟩
              have HE7 := hide (HE6.out.turn ht7 hc7)
              clear hc7 ht7 HT6 hrun hlk5
              have HK := hide (HOT.out w7 F7 (o - 1) (addT t 0 [x]) (by obtain ⟨hnk, htk, hok⟩ := HNK.out; have htt := tot_add t 0 [x]; omega) (by obtain ⟨hnk, htk, hok⟩ := HNK.out; have htt := tot_add t 0 [x]; omega) HE7.out.h HE7.out.bel)
              go_wp2_with fail
              refine HK.out.mono ?_; rintro e w9 ⟨A9, c9, F9, rfl, _, hc9, ht9⟩
              have HE9 : Hid (KeepE2 w w9 gx bm N m (k + 1)) := by
                obtain ⟨hnk, htk, hok⟩ := HNK.out
                exact ⟨_, _, _, F9, _, HE7.out.turn ht9 hc9, HI6.out, by omega, by rw [tot_add]; omega, by omega⟩
              clear hc9 ht9 HK
              go_wp2
              go_roundw
              case rel => exact ⟨k + 1, by omega, by go_num, HE9.out⟩
              case measure => simp [intOf]; omega
            | true =>
              go_wp2_with fail
              refine HSA.out.mono ?_; rintro e w5 ⟨rfl, hb5⟩
              have HE5 := hide (HEA.out.on hb5)
              clear hb5 HSA
              have HK := hide (HOT.out w5 F o t (by obtain ⟨hnk, htk, hok⟩ := HNK.out; omega) (by obtain ⟨hnk, htk, hok⟩ := HNK.out; omega) HE5.out.h HE5.out.bel)
              go_wp2_with fail
              refine HK.out.mono ?_; rintro e w9 ⟨A9, c9, F9, rfl, _, hc9, ht9⟩
              have HE9 : Hid (KeepE2 w w9 gx bm N m (k + 1)) := by
                obtain ⟨hnk, htk, hok⟩ := HNK.out
                exact ⟨_, _, _, F9, _, HE5.out.turn ht9 hc9, HI.out, by omega, by omega, by omega⟩
              clear hc9 ht9 HK
              go_wp2
              go_roundw
              case rel => exact ⟨k + 1, by omega, by go_num, HE9.out⟩
              case measure => simp [intOf]; omega
          · have h1 : ¬ (v : Int) < (N : Int) := by omega
            have HK := hide (HOT.out wr F o t (by obtain ⟨hnk, htk, hok⟩ := HNK.out; omega) (by obtain ⟨hnk, htk, hok⟩ := HNK.out; omega) HE.out.h HE.out.bel)
            go_wp2_with fail
            refine HK.out.mono ?_; rintro e w9 ⟨A9, c9, F9, rfl, _, hc9, ht9⟩
            have HE9 : Hid (KeepE2 w w9 gx bm N m (k + 1)) := by
              obtain ⟨hnk, htk, hok⟩ := HNK.out
              exact ⟨_, _, _, F9, _, HE.out.turn ht9 hc9, HI.out, by omega, by omega, by omega⟩
            clear hc9 ht9 HK
            go_wp2
            go_roundw
            case rel => exact ⟨k + 1, by omega, by go_num, HE9.out⟩
            case measure => simp [intOf]; omega
        · obtain rfl : k = l.length := by omega
          have HK3 : Hid (KeepE3 w wr gx N m 0) := by
            obtain ⟨hnk, htk, hok⟩ := HNK.out
            exact ⟨o, t, f, F, HE.out.h, HE.out.bel, HI.out, by omega, by omega⟩
          clear HE HI HNK
          go_wp2
          go_loopw [13] (fun i wr => ∃ k : Nat, k ≤ N ∧ i = .int .u64 k ∧ Hid (KeepE3 w wr gx N m k)) (fun i _ => N - (intOf i).toNat)
          case atStart => exact ⟨0, Nat.zero_le _, rfl, HK3.out⟩
          case round =>
            obtain ⟨j, hj, rfl, hrel⟩ := hrel
            obtain ⟨o3, t3, f3, F3, he3, hb3, hi3, ht3, ho3⟩ := hrel.out
            have HE3 := hide he3
            have HB3 := hide hb3
            have HI3 := hide hi3
            have HN3 := hide (And.intro ht3 ho3)
            clear hrel he3 hb3 hi3 ht3 ho3 HK3
            by_cases hjN : j < N
            · have h1 : (j : Int) < (N : Int) := by omega
              have hj1 : j ≤ 1000000 := by omega
              obtain ⟨hle, hi4⟩ := HI3.out.more hjN
              have HI4 := hide hi4
              have HK := hide (hx_take (s' := hE (o3 - 1) N (addT t3 0 m)) (ts := []) HE3.out (by simp [hE]) (by show tot t3 ≤ _; have := HN3.out.1; omega) 3 0 C m.length d m rfl ((HM.out.rd.below HB3.out (Nat.le_refl _)).more HB3.out.size) (he_offE HE3.out HM.out.rd) HM.out.byt (by have := h64.out; omega) (hE_data (by have := HN3.out.2; omega) hle) rfl rfl)
              clear hle hi4
              go_wp2_with fail
              refine HK.out.mono ?_; rintro e w6 ⟨A6, c6, F6, rfl, _, hc6, ht6⟩
              have HK6 : Hid (KeepE3 w w6 gx N m (j + 1)) := by
                obtain ⟨ht, ho⟩ := HN3.out
                exact ⟨_, _, _, F6, hc6, ht6.below HB3.out HE3.out.foot HB3.out.size, HI4.out, by rw [tot_add]; omega, by omega⟩
              clear hc6 ht6 HK
              go_wp2
              go_roundw
              case rel => exact ⟨j + 1, by omega, by go_num, HK6.out⟩
              case measure => simp [intOf]; omega
            · obtain rfl : j = N := by omega
              have h1 : ¬ (j : Int) < (j : Int) := by omega
              have HST : Hid (Calls Try.prog 34 #[.pointer (some ⟨gx, 0, none⟩)] wr fun e w' => e = .returned (.agg #[.int .i64 0, .int .i64 0, .int .u64 (o3 : Int), .int .u64 (j : Int), .bool false]) ∧ Below wr.heap.size wr w') := hx_state HE3.out
              have hfd : ∀ w : World, (Instr.field 61 (.agg #[.int .i64 0, .int .i64 0, .int .u64 (o3 : Int), .int .u64 (j : Int), .bool false]) 0).run Try.prog w = .ok (.int .i64 0) w := fun _ => by rfl
              have ho4 : 0 < o3 := by have := HN3.out.2; omega
              have HO4 := hide ho4
              go_wp2_with fail
              refine HST.out.mono ?_; rintro e w5 ⟨rfl, hb5⟩
              have HE5 := hide (HE3.out.on hb5)
              have HB5 := hide (below2 HB3.out hb5 (Nat.le_refl _))
              have HK := hide (hx_take (s' := hF m (o3 - 1)) (ts := []) HE5.out (by simp [hE]) (by show tot t3 ≤ _; have := HN3.out.1; omega) 3 0 C m.length d m rfl ((HM.out.rd.below HB5.out (Nat.le_refl _)).more HB5.out.size) (he_offE HE5.out HM.out.rd) HM.out.byt (by have := h64.out; omega) (hE_last HO4.out h64.out HI3.out.last) rfl rfl)
              clear hb5 HST ho4
              go_wp2_with fail
              refine HK.out.mono ?_; rintro e w6 ⟨A6, c6, F6, rfl, _, hc6, ht6⟩
              obtain ⟨q, hq⟩ : ∃ q, q = o3 - 1 := ⟨_, rfl⟩
              rw [← hq] at hc6
              have HE6 := hide hc6
              have HB6 := hide (ht6.below HB5.out HE5.out.foot HB5.out.size)
              have HST : Hid (Calls Try.prog 34 #[.pointer (some ⟨gx, 0, none⟩)] w6 fun e w' => e = .returned (.agg #[.int .i64 1, .int .i64 0, .int .u64 (q : Int), .int .u64 (q : Int), .bool false]) ∧ Below w6.heap.size w6 w') := hx_state HE6.out
              clear hc6 ht6 HK hq hfd
              go_wp2_with fail
              refine HST.out.mono ?_; rintro e w7 ⟨rfl, hb7⟩
              obtain ⟨w8, hw8⟩ : ∃ w8, w8 = w7.alloc (.cells #[.int .i64 1, .int .i64 0, .int .u64 (q : Int), .int .u64 (q : Int), .bool false] 61) := ⟨_, rfl⟩
              have HX8 : Hid (Blk w8 w7.heap.size 61 [.int .i64 1, .int .i64 0, .int .u64 (q : Int), .int .u64 (q : Int), .bool false]) := by rw [hw8]; exact Blk.new w7 _ _
              have hb78 : Below w7.heap.size w7 w8 := by rw [hw8]; exact (Below.refl _ _).alloc (Nat.le_refl _) _
              have hb68 := below2 hb7 hb78 (Nat.le_refl _)
              have HE8 := hide (HE6.out.on hb68)
              have HB8 := hide (below2 HB6.out hb68 (Nat.le_refl _))
              have HNF : Hid (¬ F6 w7.heap.size) := fun hf => by have := (HE6.out.foot _ hf).2; have := hb7.size; omega
              have HW8 := hide hw8
              have HR := hide (hx_recv (s' := hG q) (f := m) (n := m.length) (b := true) HE8.out (by simp [hF]) (by simp [hF]) (by simp [hF, tot]) (hF_recv m q) rfl rfl rfl)
              clear hb7 hb78 hb68 hw8 HST
              go_wp2_with fail
              rw [← HW8.out]
              refine HR.out.mono ?_; rintro e w9 ⟨A9, c9, F9, rfl, ho9, _, hc9, ht9⟩
              have hx9 := HX8.out.kept (ht9.block _ HX8.out.lt HNF.out)
              have HB9 := hide (ht9.below HB8.out HE8.out.foot HB8.out.size)
              have HS := hide (sameE A9 C c9 d _ m.length m.length m m w9 rfl rfl (own_rd ho9) (HM.out.rd.on HB9.out) (by have := h64.out; omega) (show (m == m) = true by simp))
              have x0 := hx9.cell (i := 0) rfl
              have x2 := hx9.cell (i := 2) rfl
              have x3 := hx9.cell (i := 3) rfl
              have hqq : ((q : Int) == (q : Int)) = true := by simp
              clear ho9 hc9 ht9 hx9 HR
              go_wp2_with fail
              refine HS.out.mono ?_; rintro e w10 ⟨rfl, hb10⟩
              have HB10 := hide (below2 HB9.out hb10 (Nat.le_refl _))
              clear hb10 HS
              go_wp2_with fail
              refine (live21 _).mono ?_; rintro e w' ⟨rfl, hbl⟩
              have HBL := hide (below2 HB10.out hbl (Nat.le_refl _))
              clear hbl
              go_wp2
              go_ret
              exact ⟨rfl, HBL.out⟩
theorem walk_HearerEnters (w : World) (N : Nat) (hN : N < 18446744073709551616) (A : Option Addr) (c : Nat) (l : List Nat) (hl : In8 w A c l) (C : Option Addr) (d : Nat) (m : List Nat) (hm : In8 w C d m) :
    Calls Try.prog 5 #[.int .u64 (N : Nat), .slice A l.length c, .slice C m.length d] w fun e w' => e = .returned (.bool true) ∧ Below w.heap.size w w' := by
  by_cases h : 20 < N ∨ 20 < l.length ∨ 64 < m.length
  · exact enters_bad w N A C c d _ _ h
  · exact enters_in w N A C c d l m hl hm (by omega) (by omega) (by omega)
end Go.Proofs.Ytnbhgeodbpelgaa
