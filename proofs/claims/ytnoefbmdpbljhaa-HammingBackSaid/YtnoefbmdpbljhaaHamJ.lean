/- Layer 10: Unpack, by what it computes. No conditions. -/
import Derived.Test.YtnoefbmdpbljhaaHamI
namespace Go.Proofs.Ytnoefbmdpbljhaa
open Go.RowKit
set_option linter.unusedVariables false

theorem okW_succ {W : List Nat} {k x : Nat} (h : Hm.okW W k) (hx : W[k]? = some x) (h0 : (Hm.half x).2.2 = 0) : Hm.okW W (k + 1) := by
  intro j z hj hz
  by_cases e : j = k
  · have hz' : W[k]? = some z := e ▸ hz
    have : some x = some z := hx.symm.trans hz'
    have : x = z := Option.some.inj this
    rw [← this]; exact h0
  · exact h j z (by omega) hz
theorem or_shift (y p : Nat) (h : p < 16) : bits .or .u8 ((y : Int) * 16 % 256) ((p : Int) % 256) = (((y * 16 % 256) ||| p : Nat) : Int) := by
  rw [← u8_or_nat _ _ (Nat.mod_lt _ (by omega)) (by omega)]
  congr 1
  omega
/-- what Unpack tells. -/
def UnpR (W : List Nat) (w : World) (e : Ending) (w' : World) : Prop :=
  (∃ A l c n f, e = .returned (.tuple #[.slice A l.length c, .int .i64 (n : Nat), .int .i64 (f : Nat)]) ∧ w'.ownsRow w.heap.size 5 1 (.slice A l.length c) l.length (u8s l) ∧
    ((8192 < W.length ∧ l = [] ∧ n = 0 ∧ f = 2) ∨ (W.length ≤ 8192 ∧ W.length % 2 = 1 ∧ l = [] ∧ n = 0 ∧ f = 1) ∨ (W.length ≤ 8192 ∧ W.length % 2 = 0 ∧ ¬ Hm.okW W W.length ∧ l = [] ∧ n = 0 ∧ f = 100) ∨
     (W.length ≤ 8192 ∧ W.length % 2 = 0 ∧ Hm.okW W W.length ∧ l = Hm.rbytes W (W.length / 2) ∧ n = Hm.cnt W W.length ∧ f = 0))) ∧ Below w.heap.size w w'

set_option maxRecDepth 100000 in
set_option maxHeartbeats 2000000 in
theorem unpack_in (A : Option Addr) (c : Nat) (W : List Nat) (hl : W.length ≤ 8192) (he : W.length % 2 = 0) (hb : Byt W) (w : World) (hA : Rd w.heap.size w A (u8s W)) :
    Calls Try.prog 18 #[.slice A W.length c] w (UnpR W w) := by
  obtain ⟨i0, hi, hz0, hz1, hz2⟩ := info_parts Try.inf8
  obtain ⟨n, hn⟩ : ∃ n, n = W.length / 2 := ⟨_, rfl⟩
  have HA := hide hA
  have HBy := hide hb
  have HN : Hid (W.length = 2 * n) := by show _ = _; omega
  have e1 : ((W.length : Int) % 2 != 0) = false := by simp; omega
  have hb1 : i0.bytes * n ≤ 281474976710656 := by rw [hz2]; omega
  have hb2 : n ≤ maxLen := by unfold maxLen; omega
  have hl2 : (W.length : Int) ≤ 8192 := by omega
  have HN2 := hide hn
  clear hA hb he hn
  go_enter Try.func18, Try.ntmps18
  go_wp2_with (at_make; refine wpList_make_full _ rfl _ _ _ rfl w.heap.size 5 i0 (.int .u8 0) 1 Try.underlying39 hi hz0 hz1 .i64 .i64 _ _ n rfl rfl (by have := HN.out; omega) (by have := HN.out; omega) hb1 hb2 (Nat.le_refl _) ?_; intro w1 hown hgrow)
  have hbel : Below w.heap.size w w1 := (Below.refl _ _).grown hgrow (Nat.le_refl _) (by intro k h; cases h)
  have hlt0 := own_lt hown
  rw [made_u8] at hown
  have hz : u8s (List.replicate n 0) = u8s (Hm.bytes W 0) := by rw [Hm.bytes_zero, HN2.out]
  rw [hz] at hown
  obtain ⟨g, hg⟩ : ∃ g, g = w.heap.size := ⟨_, rfl⟩
  have HG := hide hg
  rw [← hg] at hown ⊢
  clear hgrow hb1 hb2 hz hg hlt0
  go_loopw [6, 27] (fun v i wr => ∃ k : Nat, k ≤ W.length ∧ i = .int .i64 k ∧ (∃ m : Nat, m ≤ 8192 ∧ Hid (m = Hm.cnt W k) ∧ v = .int .i64 m) ∧ Hid (Hm.okW W k) ∧ wr.ownsRow g 5 1 (.slice (some ⟨g, 0, none⟩) n n) n (u8s (Hm.bytes W k)) ∧ Below g w wr) (fun _ i _ => W.length - (intOf i).toNat)
  case atStart => exact ⟨0, Nat.zero_le _, rfl, ⟨0, by omega, rfl, rfl⟩, fun j x h => absurd h (by omega), hown, by rw [HG.out]; exact hbel⟩
  case round =>
    obtain ⟨k, hk, rfl, ⟨m, hm, hmc, rfl⟩, hok, hownr, hb⟩ := hrel
    clear hown hbel
    by_cases hlt : k < W.length
    · obtain ⟨x, hx⟩ : ∃ x, W[k]? = some x := ⟨_, List.getElem?_eq_getElem hlt⟩
      obtain ⟨b1, o1, rfl, hbb, hc1⟩ := (HA.out.below hb (by rw [HG.out]; exact Nat.le_refl _)).at_ (u8s_get hx)
      have hx256 : x < 256 := HBy.out.at_ hx
      have HH := hide (fun V => half_any x hx256 V)
      have hj : k / 2 < n := by have := HN.out; omega
      have hcj := own_cell hownr (u8s_get (Hm.bytes_at W k (k / 2) (by rw [← HN2.out]; exact hj)))
      have hfj := hownr.frozenAt (k / 2)
      go_wp2_with fail
      refine (HH.out _).mono ?_; rintro e w' ⟨rfl, rfl⟩
      rcases (Hm.half_ok ⟨x, hx256⟩).2.2 with h0 | h0
      · simp only at h0
        rw [h0]
        have hgd : W.getD k 0 = x := by rw [List.getD_eq_getElem?_getD, hx]; rfl
        have hhb : Hm.hb W k = (Hm.half x).1 := by unfold Hm.hb; rw [hgd]
        have h1 := (Hm.half_ok ⟨x, hx256⟩).1
        have h2 := (Hm.half_ok ⟨x, hx256⟩).2.1
        simp only at h1 h2
        have hnx : (Hm.byteAt W k (k / 2) * 16 % 256) ||| (Hm.half x).1 = Hm.byteAt W (k + 1) (k / 2) := by rw [← hhb]; exact Hm.byte_next W HBy.out k
        have hnb := Hm.bytes_next W k
        have hcn : Hm.cnt W (k + 1) = m + (Hm.half x).2.1 := by show Hm.cnt W k + (Hm.half (W.getD k 0)).2.1 = _; rw [hgd, hmc.out]
        have hck : m ≤ k := by rw [hmc.out]; exact Hm.cnt_le W HBy.out k hk
        obtain ⟨p, hp⟩ : ∃ p, p = (Hm.half x).1 := ⟨_, rfl⟩
        obtain ⟨q, hq⟩ : ∃ q, q = (Hm.half x).2.1 := ⟨_, rfl⟩
        obtain ⟨y, hy⟩ : ∃ y, y = Hm.byteAt W k (k / 2) := ⟨_, rfl⟩
        rw [← hp] at h1 hnx ⊢
        rw [← hq] at h2 hcn ⊢
        rw [← hy] at hnx hcj
        have HE := hide ((or_shift y p h1).trans (congrArg (fun z : Nat => (z : Int)) hnx))
        have HS := hide (own_store hownr (k / 2) (.int .u8 (bits .or .u8 ((y : Int) * 16 % 256) ((p : Int) % 256))))
        have HBS := hide (hb.setCell (p := ⟨g, k / 2, none⟩) (Nat.le_refl _) (.int .u8 (bits .or .u8 ((y : Int) * 16 % 256) ((p : Int) % 256))))
        have HOK := hide (okW_succ hok.out hx h0)
        have HC := hide hcn
        have HNB := hide hnb
        have hmq : m + q ≤ 8192 := by omega
        have hfin : wrap64 ((m : Int) + (q : Int)) = ((m + q : Nat) : Int) := by unfold wrap64; omega
        have HFIN := hide hfin
        clear hp hq hy hnx h0 hgd hhb h1 h2 hcn hnb hownr hb hx hck hfin
        go_wp2
        refine ⟨⟨k + 1, by omega, by go_num, ⟨m + q, hmq, HC.out.symm, ?_⟩, HOK, ?_, HBS.out⟩, by simp [intOf]; omega⟩
        · first | rfl | rw [HFIN.out] | go_num
        · have h := HS.out
          rw [HE.out, u8s_set, HNB.out] at h
          rw [HE.out]
          exact h
      · have HNOK : Hid (¬ Hm.okW W W.length) := fun h => by have := h k x hlt hx; rw [h0] at this; simp at this
        simp only at h0
        rw [h0]
        have HB := hide hb
        clear hownr hb hx h0 hcj hfj
        go_wp2
        go_ret3
        have hb' := HB.out
        rw [HG.out] at hb'
        exact ⟨⟨none, [], 0, 0, 100, rfl, World.ownsRow_nil _ _ _ _, .inr (.inr (.inl ⟨hl, by have := HN.out; omega, HNOK.out, rfl, rfl, rfl⟩))⟩, hb'⟩
    · obtain rfl : k = W.length := by omega
      have HB := hide hb
      have HO := hide hownr
      clear hownr hb
      go_wp2
      go_ret3
      have hb' := HB.out
      have ho := HO.out
      have hbl : (Hm.rbytes W (W.length / 2)).length = n := by rw [← HN2.out]; simp [Hm.rbytes]
      rw [Hm.bytes_all W (by have := HN.out; omega)] at ho
      rw [HG.out] at hb' ho
      refine ⟨⟨some ⟨w.heap.size, 0, none⟩, Hm.rbytes W (W.length / 2), n, m, 0, ?_, ?_, .inr (.inr (.inr ⟨hl, by have := HN.out; omega, hok.out, rfl, hmc.out, rfl⟩))⟩, hb'⟩
      · rw [hbl, HG.out]; rfl
      · rw [hbl]; exact ho
end Go.Proofs.Ytnoefbmdpbljhaa
