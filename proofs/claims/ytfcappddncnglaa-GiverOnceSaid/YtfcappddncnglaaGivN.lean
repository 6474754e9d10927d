/- Layer 28: the law GiverOnce, walked. No conditions. -/
import Derived.Test.YtfcappddncnglaaGivM
import Derived.Deep.CutBlock
namespace Go.Proofs.Ytfcappddncnglaa
open Go.RowKit No
set_option linter.unusedVariables false
attribute [local go_sem ↓] Go.wp_at_zero Go.wp_at_succ

/-- the numbers that are told fit in 64 bits. -/
theorem act_fit {s : Gst} {f : Nat → Option Nat} {S ins : List Nat} (h : Pl s f S ins) (L : List Nat) (d : Int) (p : Pk) (hU : ∀ x ∈ (actS L d p s).U, x < 18446744073709551616) (hT : p.T < 18446744073709551616) : ∀ t ∈ actT L d p s, t.1 = 1 → t.2.1 < 18446744073709551616 ∧ t.2.2.1 < 18446744073709551616 := by
  intro t ht h1
  have hk : ∀ s', t ∈ knownT s' → False := fun s' hm => by
    unfold knownT at hm
    split at hm
    · cases hm
    · simp at hm; subst hm; cases h1
  unfold actT at ht
  unfold actS at hU
  by_cases d0 : d = 0
  · rw [if_pos d0] at ht hU
    unfold takeT at ht
    unfold takeS at hU
    by_cases k2 : p.k = 2
    · rw [if_pos k2] at ht
      split at ht
      · cases ht
      · split at ht
        · exact (hk _ ht).elim
        · cases ht
    · rw [if_neg k2] at ht hU
      by_cases k0 : p.k = 0
      · rw [if_pos k0] at ht hU
        split at ht
        · exact (hk _ ht).elim
        · rename_i ho
          rw [if_neg ho] at hU
          unfold chalT at ht
          simp at ht
          subst ht
          refine ⟨hT, hU _ ?_⟩
          unfold chalS
          by_cases hh : chalHit s p.T = true
          · rw [if_pos hh]
            exact (h.opn (by unfold chalHit at hh; simp at hh; exact hh.1)).2.2
          · rw [if_neg hh]; simp
      · rw [if_neg k0] at ht; cases ht
  · rw [if_neg d0] at ht
    by_cases d1 : d = 1
    · rw [if_pos d1] at ht
      unfold recT at ht
      split at ht
      · cases ht
      · exact (hk _ ht).elim
    · rw [if_neg d1] at ht; cases ht
theorem actS_fit (L : List Nat) (d : Int) (p : Pk) (s : Gst) (hL : ∀ x ∈ L, x < 18446744073709551616) (hs : s.U.length ≤ 1000000) (hU : ∀ x ∈ s.U, x < 18446744073709551616) : ∀ x ∈ (actS L d p s).U, x < 18446744073709551616 := by
  have hc : ∀ x ∈ (chalS L s p.T).U, x < 18446744073709551616 := by
    unfold chalS
    split
    · exact hU
    · intro x hx
      rcases List.mem_append.1 hx with hx | hx
      · exact hU x hx
      · simp at hx; subst hx; exact nextN_fit hL hs
  have he : (entS 3 s p).U = s.U := by
    unfold entS
    split
    · split <;> rfl
    · rfl
  have hr : (recS s).U = s.U := by unfold recS; split <;> rfl
  unfold actS
  split
  · unfold takeS
    split
    · rw [he]; exact hU
    · split
      · split
        · exact hU
        · exact hc
      · exact hU
  · split
    · rw [hr]; exact hU
    · exact hU
def actS1 (L : List Nat) (d : Int) (p : Pk) (s : Gst) : Gst := if d = 0 then takeS 3 L s p else s
def actT1 (L : List Nat) (d : Int) (p : Pk) (s : Gst) : List Tok := if d = 0 then takeT L s p else []
def stC (s : Gst) : List Value := [.int .i64 (s.ent : Nat), .int .i64 (s.ret : Nat), .int .u64 (s.R : Nat)]
def KeepO (w0 wr : World) (gx gs : Nat) (L : List Nat) (bt bu k : Nat) (V : Value) : Prop :=
  ∃ s F n f S ins, Once w0 wr gx gs L s F bt bu n f S V ins [] ∧ Pl s f S ins ∧ (n ≤ 2 * k ∧ s.ent ≤ k ∧ s.ret ≤ k ∧ s.U.length ≤ k + 1) ∧ ∀ x ∈ s.U, x < 18446744073709551616
/-- in the midst of a round. -/
def MidO (w0 wr : World) (gx gs : Nat) (L : List Nat) (s : Gst) (bt bu n : Nat) (f : Nat → Option Nat) (S : List Nat) (V : Value) (ins : List Nat) (X : List (Nat × TypeId × List Value)) (A : Option Addr) (ts : List Tok) : Prop :=
  ∃ F, Once w0 wr gx gs L s F bt bu n f S V ins X ∧ Toks wr A ts ∧ ∀ b o s, A = some ⟨b, o, s⟩ → b ≠ bt ∧ b ≠ bu
set_option maxRecDepth 100000 in
set_option maxHeartbeats 8000000 in
theorem walk_GiverOnce (w : World) (D : Option Addr) (cd : Nat) (L : List Nat) (hd : InU w D cd L) (a : Option Addr) (c : Nat) (l : List (Int × Pk)) (hl : InA28 w a c l) :
    Calls Try.prog 12 #[.slice D L.length cd, .slice a l.length c] w fun e w' => e = .returned (.bool true) ∧ Below w.heap.size w w' := by
  have HN := hide (src_new D cd L hd.reach w hd.rd)
  have HX := hide (fun W B gs Fs (h : Src W B gs L [] Fs) (hB : B ≤ W.heap.size) => gv_new 3 (by omega) (by omega) h hB hd.reach (by simp))
  have HH := hide (fun W (hb : Below w.heap.size w W) => huge28 (hl.on hb) D L.length cd hd.len)
  have HL := hide hl
  have HLR := hide hd.reach
  have HLF := hide hd.fits
  have hll : l.length ≤ 9223372036854775807 := Nat.le_trans hl.cap hl.max
  have hmm := @run_makeMap Try.prog
  clear hl hd
  go_enter Try.func12, Try.ntmps12
  go_wp2_with fail
  refine HN.out.mono ?_; rintro e w1 ⟨gs, Fs, rfl, hs1, hb1⟩
  have HS1 := hide hs1
  have HB1 := hide hb1
  have HX1 := hide (HX.out w1 w.heap.size gs Fs hs1 hb1.size)
  clear hs1 hb1 HN HX
  go_wp2_with fail
  refine HX1.out.mono ?_; rintro e w2 ⟨gx, F2, rfl, hg, ht⟩
  have HG2 : Hid (Gv w2 w.heap.size gx gs 3 L (newG L []) F2) := hg
  have HB2 := hide (ht.below HB1.out HS1.out.1 HB1.out.size)
  have HH2 := hide (HH.out w2 HB2.out)
  clear hg ht HX1 HH HS1 HB1
  go_wp2_with fail
  refine HH2.out.mono ?_; rintro e w' ⟨b, rfl, rfl, hsm⟩
  have HSM := hide hsm
  clear hsm HH2
  cases b
  case true =>
    go_wp2_with fail
    refine (live28 _).mono ?_; rintro e w' ⟨rfl, hb⟩
    go_wp2
    go_ret
    exact ⟨rfl, below2 HB2.out hb (Nat.le_refl _)⟩
  case false =>
    have hl100 : l.length ≤ 100 := (HSM.out rfl).1
    clear HSM
    go_wp2_with fail
    refine (num28 _ _).mono ?_; rintro e w' ⟨rfl, rfl⟩
    have HO0 : Hid (Once w ((w2.alloc (.map #[] 0)).alloc (.map #[] 0)) gx gs L (newG L []) F2 w2.heap.size (w2.heap.size + 1) 0 (fun _ => none) [] (.slice none 0 0) [] []) := by
      have hb : Below w2.heap.size w2 ((w2.alloc (.map #[] 0)).alloc (.map #[] 0)) := ((Below.refl _ _).alloc (Nat.le_refl _) _).alloc (by simp) _
      have hs := HB2.out.size
      refine ⟨HG2.out.on hb, ?_, ?_, World.ownsRow_nil _ _ _ _, ⟨hs, by omega, by omega⟩, fun k hk => ⟨by have := (HG2.out.foot k hk).2; omega, by have := (HG2.out.foot k hk).2; omega, (by intro e; cases e)⟩, ⟨(by intro e; cases e), (by intro e; cases e)⟩, (fun x hx => by cases hx), below2 HB2.out hb (Nat.le_refl _)⟩
      · exact ⟨_, (World.ownsMap_made w2 _ _ _).alloc _, tell_new⟩
      · have h := World.ownsMap_made (H := Unit) (w2.alloc (.map #[] 0)) Try.prog 94 (plainElem Try.prog 4)
        rw [show (w2.alloc (.map #[] 0)).heap.size = w2.heap.size + 1 by simp] at h
        exact ⟨_, h, used_new⟩
    go_wp2
    go_loopw [10, 11] (fun V i wr => ∃ k : Nat, k ≤ l.length ∧ i = .int .i64 k ∧ Hid (KeepO w wr gx gs L w2.heap.size (w2.heap.size + 1) k V)) (fun _ i _ => l.length - (intOf i).toNat)
    case atStart => exact ⟨0, Nat.zero_le _, rfl, _, _, _, _, _, _, HO0.out, Pl.new L, ⟨Nat.le_refl _, Nat.le_refl _, Nat.le_refl _, Nat.le_refl _⟩, fun x hx => by
      simp only [newG, List.nil_append, List.mem_singleton] at hx
      subst hx
      exact nextN_fit HLF.out (by simp)⟩
    case round =>
      obtain ⟨k, hk, rfl, hrel⟩ := hrel
      clear HO0 HG2 HB2 hmm
      obtain ⟨s, F, n, f, S, ins, ho, hpl, ⟨hn, he, hr, hu⟩, hfit⟩ := hrel.out
      have HO := hide ho
      have HPL := hide hpl
      have HNN := hide (show n ≤ 2 * k ∧ s.ent ≤ k ∧ s.ret ≤ k ∧ s.U.length ≤ k + 1 from ⟨hn, he, hr, hu⟩)
      have HFT := hide hfit
      obtain ⟨AV, cV, rfl, _⟩ := own_val ho.ri
      clear hrel ho hpl hn he hr hu hfit
      by_cases hlt : k < l.length
      · obtain ⟨⟨d, p⟩, hpm⟩ : ∃ x, l[k]? = some x := ⟨_, List.getElem?_eq_getElem hlt⟩
        obtain ⟨b, o, A, cA, rfl, hbl, h0, hc, hpk, _⟩ := HL.out.rd k d p hpm
        have HC := hide (fun W (hb : Below w.heap.size w W) j v (hv : (pkC p A cA)[j]? = some v) => (hb.cell (p := ⟨b, o + k * 6 + (j + 1), none⟩) hbl).trans (hc j v hv))
        have HC0 := hide (fun W (hb : Below w.heap.size w W) => (hb.cell (p := ⟨b, o + k * 6, none⟩) hbl).trans h0)
        have HPK := hide hpk
        have g0 : (0 : Int) ≤ (k : Int) := by omega
        have g3 : (k : Int) < (l.length : Int) := by omega
        clear hpm h0 hc hpk hbl
        go_wp2_with fail
        refine (gv_state HO.out.g).mono ?_; rintro e w5 ⟨rfl, hb5⟩
        obtain ⟨w6, hw6⟩ : ∃ w6, w6 = w5.alloc (.cells #[.int .i64 (s.ent : Nat), .int .i64 (s.ret : Nat), .int .u64 (s.R : Nat)] 105) := ⟨_, rfl⟩
        have HO6 : Hid (Once w w6 gx gs L s F w2.heap.size (w2.heap.size + 1) n f S (.slice AV ins.length cV) ins [(w5.heap.size, 105, stC s)]) := by rw [hw6]; exact (HO.out.on hb5).add 105 (stC s)
        have HW6 := hide hw6
        have c0 := HC0.out w6 HO6.out.bel
        clear hb5 hw6
        go_upto_region 12 with (fail)
        rw [← HW6.out]
        go_upto_if 52 with (fail)
        go_cut [13] from 53 to 59 (fun s13 wr => ∃ A c ts, s13 = .slice A (List.length ts) c ∧ Hid (MidO w wr gx gs L (actS1 L d p s) w2.heap.size (w2.heap.size + 1) n f S (.slice AV ins.length cV) ins [(w5.heap.size, 105, stC s)] A ts ∧ ts = actT1 L d p s))
        case first =>
          by_cases d0 : d = 0
          · subst d0
            have x0 := HC.out w6 HO6.out.bel 0 _ rfl
            have x1 := HC.out w6 HO6.out.bel 1 _ rfl
            have x2 := HC.out w6 HO6.out.bel 2 _ rfl
            have x3 := HC.out w6 HO6.out.bel 3 _ rfl
            have x4 := HC.out w6 HO6.out.bel 4 _ rfl
            have HT := hide (gv_take HO6.out.g HLR.out (by have := HNN.out; omega) (by have := HNN.out; omega) p A cA ((HPK.out.rd.below HO6.out.bel (Nat.le_refl _)).more HO6.out.bel.size))
            clear HC HC0
            go_wp2_with fail
            refine HT.out.mono ?_; rintro e w7 ⟨A7, c7, F7, rfl, ht7, hg7, hu7, hn7⟩
            have hnb : ∀ b o s, A7 = some ⟨b, o, s⟩ → b ≠ w2.heap.size ∧ b ≠ w2.heap.size + 1 := fun b o s e => by
              have h1 := (hn7 b o s e).1
              have h2 := mapT_lt HO6.out.mt
              have h3 := mapU_lt HO6.out.mu
              exact ⟨by omega, by omega⟩
            have HM := hide (show MidO w w7 gx gs L (takeS 3 L s p) w2.heap.size (w2.heap.size + 1) n f S (.slice AV ins.length cV) ins [(w5.heap.size, 105, stC s)] A7 (takeT L s p) from ⟨F7, HO6.out.turn hu7 hg7, ht7, hnb⟩)
            clear ht7 hg7 hu7 hn7 hnb HT x0 x1 x2 x3 x4
            go_wp2
            go_meet
            case rel =>
              unfold actS1 actT1
              rw [if_pos rfl, if_pos rfl]
              exact ⟨A7, c7, _, rfl, HM.out, rfl⟩
          · have HD0 := hide d0
            have e0 : (d == 0) = false := by simp; exact d0
            clear d0
            go_wp2
            go_meet
            case rel =>
              unfold actS1 actT1
              rw [if_neg HD0.out, if_neg HD0.out]
              exact ⟨none, 0, [], rfl, ⟨F, HO6.out, Toks.nil _ _, fun b o s e => by cases e⟩, rfl⟩
        case rest =>
          obtain ⟨A1, c1, ts1, rfl, hm1⟩ := hcut
          have HM1 := hide hm1.out.1
          have HT1 := hide hm1.out.2
          have c0 := HC0.out wc (by obtain ⟨F1, h1, _⟩ := hm1.out.1; exact h1.bel)
          clear hm1 HO6 HW6 HO
          go_upto_if 65 with (fail)
          clear c0
          go_cut [13] from 66 to 71 (fun s13 wr => ∃ A c ts, s13 = .slice A (List.length ts) c ∧ Hid (MidO w wr gx gs L (actS L d p s) w2.heap.size (w2.heap.size + 1) n f S (.slice AV ins.length cV) ins [(w5.heap.size, 105, stC s)] A ts ∧ ts = actT L d p s))
          case first =>
            by_cases d1 : d = 1
            · subst d1
              have HM2 : Hid (MidO w wc gx gs L s w2.heap.size (w2.heap.size + 1) n f S (.slice AV ins.length cV) ins [(w5.heap.size, 105, stC s)] A1 ts1) := by have := HM1.out; unfold actS1 at this; rwa [if_neg (by decide)] at this
              obtain ⟨F1, ho1, _, _⟩ := HM2.out
              have HO1 := hide ho1
              have HT := hide (gv_recv ho1.g (by have := HNN.out; omega))
              clear ho1 HM1 HT1 HC HC0
              go_wp2_with fail
              refine HT.out.mono ?_; rintro e w7 ⟨A6, c6, A7, c7, F7, rfl, _, ht7, hg7, hu7, hn7⟩
              have hnb : ∀ b o s, A7 = some ⟨b, o, s⟩ → b ≠ w2.heap.size ∧ b ≠ w2.heap.size + 1 := fun b o s e => by
                have h1 := (hn7 b o s e).1
                have h2 := mapT_lt HO1.out.mt
                have h3 := mapU_lt HO1.out.mu
                exact ⟨by omega, by omega⟩
              have HM := hide (show MidO w w7 gx gs L (recS s) w2.heap.size (w2.heap.size + 1) n f S (.slice AV ins.length cV) ins [(w5.heap.size, 105, stC s)] A7 (recT s) from ⟨F7, HO1.out.turn hu7 hg7, ht7, hnb⟩)
              clear ht7 hg7 hu7 hn7 hnb HT
              go_wp2
              go_meet
              case rel =>
                unfold actS actT
                rw [if_neg (show ¬ (1 : Int) = 0 by decide), if_pos rfl, if_neg (show ¬ (1 : Int) = 0 by decide), if_pos rfl]
                exact ⟨A7, c7, _, rfl, HM.out, rfl⟩
            · have HD1 := hide d1
              have e1 : (d == 1) = false := by simp; exact d1
              clear d1
              go_wp2
              go_meet
              case rel =>
                unfold actS actT
                by_cases d0 : d = 0
                · have h1 := HM1.out
                  have h2 := HT1.out
                  unfold actS1 at h1
                  unfold actT1 at h2
                  rw [if_pos d0] at h1 h2
                  rw [if_pos d0, if_pos d0]
                  exact ⟨A1, c1, ts1, rfl, h1, h2⟩
                · have h1 := HM1.out
                  have h2 := HT1.out
                  unfold actS1 at h1
                  unfold actT1 at h2
                  rw [if_neg d0] at h1 h2
                  rw [if_neg d0, if_neg HD1.out, if_neg d0, if_neg HD1.out]
                  exact ⟨A1, c1, ts1, rfl, h1, h2⟩
          case rest =>
            obtain ⟨A2, c2, ts, rfl, hm2⟩ := hcut
            have HTS := hide hm2.out.2
            obtain ⟨F3, ho3, htk3, hnb3⟩ := hm2.out.1
            have HFS := hide (actS_fit L d p s HLF.out (by have := HNN.out; omega) HFT.out)
            have HFW := hide (actS_few L d p s)
            have HTF := hide (fun hp => act_fit HPL.out L d p HFS.out hp)
            have HAK := hide (HPL.out.act_ack L d p)
            have HEN := hide (HPL.out.act_enter L d p)
            have HST := hide (HPL.out.act_stay L d p)
            have hts1 : ts.length ≤ 1 := by rw [HTS.out]; exact actT_len L d p s
            rw [← HTS.out] at HTF HAK HEN HST
            obtain ⟨s2, hs2⟩ : ∃ s2, s2 = actS L d p s := ⟨_, rfl⟩
            rw [← hs2] at ho3 HFS HFW HAK HEN HST
            have HO3 := hide ho3
            have HTK3 := hide htk3
            have HNB := hide hnb3
            clear hm2 ho3 htk3 hnb3 HM1 HT1 hs2
            go_wp2_with fail
            refine (gv_state HO3.out.g).mono ?_; rintro e w8 ⟨rfl, hb8⟩
            obtain ⟨w9, hw9⟩ : ∃ w9, w9 = w8.alloc (.cells #[.int .i64 (s2.ent : Nat), .int .i64 (s2.ret : Nat), .int .u64 (s2.R : Nat)] 105) := ⟨_, rfl⟩
            have HO9 : Hid (Once w w9 gx gs L s2 F3 w2.heap.size (w2.heap.size + 1) n f S (.slice AV ins.length cV) ins [(w8.heap.size, 105, stC s2), (w5.heap.size, 105, stC s)]) := by rw [hw9]; exact (HO3.out.on hb8).add 105 (stC s2)
            have HTK9 : Hid (Toks w9 A2 ts) := by rw [hw9]; exact (HTK3.out.on hb8).on ((Below.refl _ _).alloc (Nat.le_refl _) _)
            have HW9 := hide hw9
            clear hb8 hw9 HO3 HTK3
            go_upto_region 18 with (fail)
            rw [← HW9.out]
            obtain ⟨gq, Fs3, tp, cp, hm⟩ := HO9.out.g
            have HSU := hide (src_used w9 _ gs L s2.U _ hm.src (by have := HNN.out; have := HFW.out; omega))
            clear hm HW9
            go_wp2_with fail
            refine HSU.out.mono ?_; rintro e w10 ⟨AU, cU, rfl, hou, hb10⟩
            have HAP := hide (apart_any AU cU s2.U (by have := HNN.out; have := HFW.out; omega) HFS.out w10 (own_rd hou))
            have HB10 := hide hb10
            clear hou hb10 HSU
            go_wp2_with fail
            refine HAP.out.mono ?_; rintro e w11 ⟨⟨hnd, rfl⟩ | ⟨hnd, rfl⟩, hb11⟩
            · have HND := hide hnd
              have HO11 := hide ((HO9.out.on HB10.out).on hb11)
              have HTK11 := hide ((HTK9.out.on HB10.out).on hb11)
              clear hnd hb11 HO9 HTK9 HB10 HAP
              go_wp2
              go_loopw [15] (fun i wr => ∃ q : Nat, q ≤ ts.length ∧ i = .int .i64 q ∧ Hid (∃ n', n' ≤ n + q ∧ Once w wr gx gs L s2 F3 w2.heap.size (w2.heap.size + 1) n' (tells f (ts.take q)) S (.slice AV ins.length cV) ins [(w8.heap.size, 105, stC s2), (w5.heap.size, 105, stC s)] ∧ Toks wr A2 ts)) (fun i _ => ts.length - (intOf i).toNat)
              case atStart => exact ⟨0, Nat.zero_le _, rfl, n, Nat.le_refl _, by rw [List.take_zero]; exact HO11.out, HTK11.out⟩
              case round =>
                obtain ⟨q, hq, rfl, hrel⟩ := hrel
                obtain ⟨n4, hn4, ho4, htk4⟩ := hrel.out
                have HO4 := hide ho4
                have HTK4 := hide htk4
                have HN4 := hide hn4
                clear hrel hn4 ho4 htk4 HO11 HTK11
                by_cases hqt : q < ts.length
                · obtain ⟨t, htq⟩ : ∃ t, ts[q]? = some t := ⟨_, List.getElem?_eq_getElem hqt⟩
                  have htm : t ∈ ts := List.mem_of_getElem? htq
                  obtain ⟨bk, ok, hA2, hbk, hck⟩ := HTK4.out q t htq
                  have HTQ := hide htq
                  have HAK1 := hide (HAK.out t htm)
                  have HTF1 := hide (fun hp h1 => HTF.out hp t htm h1)
                  have HNB1 := hide (HNB.out bk ok none hA2)
                  subst hA2
                  obtain ⟨tk, tT, tC, tR⟩ := t
                  have y0 := hck 0 _ rfl
                  have y1 := hck 1 _ rfl
                  have y2 := hck 2 _ rfl
                  simp only [Nat.add_zero] at y0
                  have HBK := hide hbk
                  have q0 : (0 : Int) ≤ (q : Int) := by omega
                  have q3 : (q : Int) < (ts.length : Int) := by omega
                  clear htm hck htq hbk
                  rcases HAK1.out with hk1 | ⟨hk3, hmem⟩
                  · have hk1' : tk = 1 := hk1
                    subst hk1'
                    obtain ⟨f1, f2⟩ := HTF1.out HPK.out.T rfl
                    obtain ⟨w12, hrun, hmt, hgr⟩ := mapT_set HO4.out.drew.mt (by have := HNN.out; have := HN4.out; omega) f2 f1
                    have HO12 := hide (HO4.out.drew.tell hgr hmt)
                    have HTK12 : Hid (Toks w12 (some ⟨bk, ok, none⟩) ts) := HTK4.out.kept (fun b' o' s' e => by
                      injection e with e
                      injection e with e1
                      subst e1
                      exact hgr.block bk HBK.out (fun e2 => HNB1.out.1 (Option.some.inj e2))) hgr.size
                    obtain ⟨_, _, ee, _, hck2⟩ := HTK12.out q _ HTQ.out
                    injection ee with ee
                    injection ee with e1 e2
                    subst e1 e2
                    have z0 := hck2 0 _ rfl
                    have z1 := hck2 1 _ rfl
                    have z2 := hck2 2 _ rfl
                    simp only [Nat.add_zero] at z0
                    have HTE : Hid (tells f (ts.take (q + 1)) = updF (tells f (ts.take q)) tC (some tT)) := by
                      show _ = _
                      rw [List.take_add_one, HTQ.out]
                      simp only [tells, Option.toList_some, List.foldl_append, List.foldl_cons, List.foldl_nil]
                      unfold tell1
                      rw [if_pos rfl]
                    clear hmt hgr hck2
                    go_wp2
                    go_region_held3 (fun w' => w'.cell? ⟨bk, ok + q * 5 + 1, none⟩ = some (.int .u64 (tT : Nat)) ∧ w'.cell? ⟨bk, ok + q * 5 + 2, none⟩ = some (.int .u64 (tC : Nat))) (first
                      | exact ⟨y1, y2⟩
                      | exact ⟨z1, z2⟩
                      | go_keep) (fail)
                    go_wp2
                    go_roundw
                    case rel => exact ⟨q + 1, by omega, by go_num, n4 + 1, by have := HN4.out; omega, by rw [HTE.out]; exact HO12.out, HTK12.out⟩
                    case measure => simp [intOf]; omega
                  · have hk3' : tk = 3 := hk3
                    subst hk3'
                    have HMM := hide (show tT ∈ ins.take s2.ret from hmem)
                    have HTE : Hid (tells f (ts.take (q + 1)) = tells f (ts.take q)) := by
                      show _ = _
                      rw [List.take_add_one, HTQ.out]
                      simp only [tells, Option.toList_some, List.foldl_append, List.foldl_cons, List.foldl_nil]
                      unfold tell1
                      rw [if_neg (show ¬ (3 : Nat) = 1 by decide)]
                    have hrl : s2.ret ≤ 1000000 := by have := HNN.out; have := HFW.out; omega
                    have hil : ins.length ≤ 1000000 := by rw [HPL.out.len]; have := HNN.out; omega
                    clear hk3 hmem y1 y2
                    go_wp2
                    go_loopw [16, 17] (fun bv j wx => ∃ r : Nat, r ≤ s2.ret ∧ r ≤ ins.length ∧ j = .int .i64 r ∧ bv = .bool (decide (tT ∈ ins.take r)) ∧ Hid (Once w wx gx gs L s2 F3 w2.heap.size (w2.heap.size + 1) n4 (tells f (ts.take q)) S (.slice AV ins.length cV) ins [(w8.heap.size, 105, stC s2), (w5.heap.size, 105, stC s)] ∧ Toks wx (some ⟨bk, ok, none⟩) ts)) (fun _ j _ => s2.ret - (intOf j).toNat)
                    case atStart => exact ⟨0, Nat.zero_le _, Nat.zero_le _, rfl, by simp, HO4.out, HTK4.out⟩
                    case round =>
                      obtain ⟨r, hr1, hr2, rfl, rfl, hrel⟩ := hrel
                      have HO5 := hide hrel.out.1
                      have HTK5 := hide hrel.out.2
                      have n1 := (HO5.out.xs _ (List.mem_cons_self ..)).1.cell (i := 1) (v := .int .i64 (s2.ret : Nat)) rfl
                      clear hrel y0 HO4 HTK4
                      by_cases h1 : r < s2.ret
                      · by_cases h2 : r < ins.length
                        · obtain ⟨x, hx⟩ : ∃ x, ins[r]? = some x := ⟨_, List.getElem?_eq_getElem h2⟩
                          obtain ⟨bV, oV, rfl, _, hcV⟩ := (own_rd HO5.out.ri).at_ (u64s_get hx)
                          obtain ⟨_, _, ee, _, hck⟩ := HTK5.out q _ HTQ.out
                          injection ee with ee
                          injection ee with e1 e2
                          subst e1 e2
                          have y1 := hck 1 _ rfl
                          have r0 : (0 : Int) ≤ (r : Int) := by omega
                          have r3 : (r : Int) < (ins.length : Int) := by omega
                          have htake : ins.take (r + 1) = ins.take r ++ [x] := by rw [List.take_add_one, hx]; rfl
                          by_cases hm : tT ∈ ins.take r
                          · have hd1 : decide (tT ∈ ins.take r) = true := decide_eq_true hm
                            have HD2 := hide (show decide (tT ∈ ins.take (r + 1)) = true from decide_eq_true (by rw [htake]; exact List.mem_append_left _ hm))
                            rw [hd1]
                            clear hm htake hck hd1 hx
                            go_wp2
                            go_quiet (fail)
                            go_wp2
                            go_roundw
                            case rel => exact ⟨r + 1, by omega, by omega, by go_num, by rw [HD2.out], HO5.out.on (below_drewN (Below.refl _ _) _), HTK5.out.on (below_drewN (Below.refl _ _) _)⟩
                            case measure => simp [intOf]; omega
                          · have hd1 : decide (tT ∈ ins.take r) = false := decide_eq_false hm
                            have HD2 := hide (show decide (tT ∈ ins.take (r + 1)) = ((x : Int) == (tT : Int)) by
                              rw [htake]
                              by_cases e : x = tT
                              · subst e; simp
                              · have e2 : ((x : Int) == (tT : Int)) = false := by simp; omega
                                rw [e2]
                                apply decide_eq_false
                                rw [List.mem_append]
                                rintro (h | h)
                                · exact hm h
                                · simp at h; exact e h.symm)
                            rw [hd1]
                            clear hm htake hck hd1 hx
                            go_wp2
                            go_quiet (fail)
                            go_wp2
                            go_roundw
                            case rel => exact ⟨r + 1, by omega, by omega, by go_num, by rw [HD2.out], HO5.out.on (below_drewN (Below.refl _ _) _), HTK5.out.on (below_drewN (Below.refl _ _) _)⟩
                            case measure => simp [intOf]; omega
                        · have hm : tT ∈ ins.take r := by
                            have h := HMM.out
                            rw [List.take_of_length_le (by omega)] at h
                            rw [List.take_of_length_le (by omega)]
                            exact h
                          rw [decide_eq_true hm]
                          clear hm
                          go_wp2
                          go_roundw
                          case rel => exact ⟨q + 1, by omega, by go_num, n4, by have := HN4.out; omega, by rw [HTE.out]; exact HO5.out, HTK5.out⟩
                          case measure => simp [intOf]; omega
                      · have hm : tT ∈ ins.take r := by
                          obtain rfl : r = s2.ret := by omega
                          exact HMM.out
                        rw [decide_eq_true hm]
                        clear hm
                        go_wp2
                        go_roundw
                        case rel => exact ⟨q + 1, by omega, by go_num, n4, by have := HN4.out; omega, by rw [HTE.out]; exact HO5.out, HTK5.out⟩
                        case measure => simp [intOf]; omega
                · obtain rfl : q = ts.length := by omega
                  have HO6 : Hid (Once w wr gx gs L s2 F3 w2.heap.size (w2.heap.size + 1) n4 (tells f ts) S (.slice AV ins.length cV) ins [(w8.heap.size, 105, stC s2), (w5.heap.size, 105, stC s)]) := by have := HO4.out; rwa [List.take_length] at this
                  have m1 := (HO6.out.xs _ (List.mem_cons_self ..)).1.cell (i := 0) (v := .int .i64 (s2.ent : Nat)) rfl
                  have m2 := (HO6.out.xs _ (List.mem_cons_of_mem _ (List.mem_cons_self ..))).1.cell (i := 0) (v := .int .i64 (s.ent : Nat)) rfl
                  clear HO4 HTK4
                  by_cases hent : s.ent < s2.ent
                  · obtain ⟨hd0, hk2, hts0, hf, hS, he1, hpl2⟩ := HEN.out hent
                    subst hd0
                    have HPL2 := hide hpl2
                    have hgt : (s.ent : Int) < (s2.ent : Int) := by omega
                    have HTE : Hid (tells f ts = f) := by show _ = _; rw [hts0]; rfl
                    have HO7 : Hid (Once w wr gx gs L s2 F3 w2.heap.size (w2.heap.size + 1) n4 f S (.slice AV ins.length cV) ins [(w8.heap.size, 105, stC s2), (w5.heap.size, 105, stC s)]) := by rw [← HTE.out]; exact HO6.out
                    have x0 := HC.out wr HO7.out.bel 0 _ rfl
                    have x1 := HC.out wr HO7.out.bel 1 _ rfl
                    have x2 := HC.out wr HO7.out.bel 2 _ rfl
                    have x3 := HC.out wr HO7.out.bel 3 _ rfl
                    have x4 := HC.out wr HO7.out.bel 4 _ rfl
                    rw [hk2] at x0
                    have HK2 := hide hk2
                    have HF := hide hf
                    have HSS := hide hS
                    have HE1 := hide he1
                    clear hpl2 hts0 hf hS he1 hk2 hent HO6
                    go_upto_region 35 with (fail)
                    have HO13 := hide (HO7.out.add 96 (pkC p A cA))
                    obtain ⟨w13, hw13⟩ : ∃ w13, w13 = wr.alloc (.cells #[.int .i64 2, .int .u64 (p.T : Nat), .int .u64 (p.C : Nat), .int .u64 (p.R : Nat), .slice A p.d.length cA] 96) := ⟨_, rfl⟩
                    rw [show wr.alloc (.cells (pkC p A cA).toArray 96) = w13 by rw [hw13]; unfold pkC; rw [HK2.out]] at HO13
                    rw [← hw13]
                    have z0 := (HO13.out.xs _ (List.mem_cons_self ..)).1.cell (i := 0) (v := .int .i64 p.k) rfl
                    have z1 := (HO13.out.xs _ (List.mem_cons_self ..)).1.cell (i := 1) (v := .int .u64 (p.T : Nat)) rfl
                    have z2 := (HO13.out.xs _ (List.mem_cons_self ..)).1.cell (i := 2) (v := .int .u64 (p.C : Nat)) rfl
                    rw [HK2.out] at z0
                    have p1 := (HO13.out.xs _ (List.mem_cons_of_mem _ (List.mem_cons_self ..))).1.cell (i := 0) (v := .int .i64 (s2.ent : Nat)) rfl
                    have p2 := (HO13.out.xs _ (List.mem_cons_of_mem _ (List.mem_cons_of_mem _ (List.mem_cons_self ..)))).1.cell (i := 0) (v := .int .i64 (s.ent : Nat)) rfl
                    have c0 := HC0.out w13 HO13.out.bel
                    have hlk := mapT_get HO13.out.mt HPK.out.C HF.out
                    have hlu := mapU_get HO13.out.mu HPK.out.C HSS.out
                    have hb1 : s.ent ≤ 1000000 := by have := HNN.out; omega
                    have hne : ((s2.ent : Int) != (s.ent : Int) + 1) = false := by have := HE1.out; simp; omega
                    have htt : ((p.T : Int) != (p.T : Int)) = false := by simp
                    obtain ⟨w14, hrun, hmu, hgr⟩ := mapU_set HO13.out.mu (by have := HNN.out; have := HN4.out; omega) HPK.out.C
                    have HO14 := hide (HO13.out.use hgr hmu)
                    have y1 := (HO14.out.xs _ (List.mem_cons_self ..)).1.cell (i := 1) (v := .int .u64 (p.T : Nat)) rfl
                    have hri := HO14.out.ri
                    have gB := HO14.out.bel.size
                    have gI1 : ins.length + 1 ≤ 9223372036854775807 := by rw [HPL.out.len]; omega
                    have gI2 : (ins.length + 1) * 8 ≤ 140737488355328 := by rw [HPL.out.len]; omega
                    obtain ⟨i0, hi, hz0, hz1, hz2⟩ := info_parts Try.infU
                    have HW13 := hide hw13
                    clear hmu hgr hw13 x0 x1 x2 x3 x4 m1 m2 hgt HO7
                    go_wp2_with (at_builtin; refine wpList_app1 _ rfl (.tmp 190) (.tmp 193) 81 rfl w.heap.size 94 i0 (.int .u64 0) 8 Try.underlying81 hi hz0 hz1 hz2 rfl _ _ _ rfl hri _ rfl (by rfl) gI1 gI2 gB ?_; intro v' w15 hown1 hg1 hat1; obtain ⟨A', c', rfl, _⟩ := own_val hown1)
                    have HO15 := hide (HO14.out.push hown1 hg1 hat1).drop
                    clear hown1 hg1 hat1 hri gB gI1 gI2
                    go_roundw
                    case rel =>
                      refine ⟨k + 1, by omega, by go_num, s2, F3, n4 + 1, f, _, _, HO15.out, HPL2.out, ?_, HFS.out⟩
                      have := HNN.out; have := HFW.out; have := HN4.out
                      exact ⟨by omega, by omega, by omega, by omega⟩
                    case measure => simp [intOf]; omega
                  · have HPL2 := hide (HST.out hent HND.out)
                    have hgt : ¬ (s.ent : Int) < (s2.ent : Int) := by omega
                    clear hent
                    go_wp2
                    go_roundw
                    case rel =>
                      refine ⟨k + 1, by omega, by go_num, s2, F3, n4, _, S, ins, HO6.out.drop, HPL2.out, ?_, HFS.out⟩
                      have := HNN.out; have := HFW.out; have := HN4.out
                      exact ⟨by omega, by omega, by omega, by omega⟩
                    case measure => simp [intOf]; omega
            · go_wp2_with fail
              refine (live28 _).mono ?_; rintro e w12 ⟨rfl, hb12⟩
              have HBX := hide (below2 ((HO9.out.on HB10.out).on hb11).bel hb12 (Nat.le_refl _))
              clear hb11 hb12 hnd
              go_wp2
              go_ret
              exact ⟨rfl, HBX.out⟩
      · obtain rfl : k = l.length := by omega
        go_wp2_with fail
        refine (live28 _).mono ?_; rintro e w' ⟨rfl, hb⟩
        go_wp2
        go_ret
        exact ⟨rfl, below2 HO.out.bel hb (Nat.le_refl _)⟩
end Go.Proofs.Ytfcappddncnglaa
