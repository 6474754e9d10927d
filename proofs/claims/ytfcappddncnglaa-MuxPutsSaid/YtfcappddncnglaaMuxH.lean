/- Layer 40: the law MuxPuts, walked. No conditions. -/
import Derived.Test.YtfcappddncnglaaMuxG
namespace Go.Proofs.Ytfcappddncnglaa
open Go.RowKit
set_option linter.unusedVariables false

/-- Put and Get, their answers named. -/
def PutV (f : List Nat) (n : Nat) (w : World) (e : Ending) (w' : World) : Prop := ∃ A c, e = .returned (.tuple #[.slice A f.length c, .int .i64 (n : Nat)]) ∧ (w'.ownsRow w.heap.size 5 1 (.slice A f.length c) f.length (u8s f)) ∧ f.length ≤ c ∧ Below w.heap.size w w'
theorem PutR.v {p : Int} {m : List Nat} {w w' : World} {e : Ending} {f : List Nat} {n : Nat} (hf : putM p m = f) (hn : putE p m = n) (h : PutR p m w e w') : PutV f n w e w' := by
  subst hf hn
  obtain ⟨A, c, he, ho, hb⟩ := h
  refine ⟨A, c, he, ho, ?_, hb⟩
  obtain ⟨_, _, e, hc⟩ := own_val ho
  injection e with _ _ e; omega
def GetV (p : Nat) (f : List Nat) (n : Nat) (w : World) (e : Ending) (w' : World) : Prop := ∃ A c, e = .returned (.tuple #[.int .i64 (p : Nat), .slice A f.length c, .int .i64 (n : Nat)]) ∧ Rd w'.heap.size w' A (u8s f) ∧ Below w.heap.size w w'
theorem GetR.v {l : List Nat} {w w' : World} {e : Ending} {p n : Nat} {f : List Nat} (hp : getP l = p) (hf : getM l = f) (hn : getE l = n) (h : GetR l w e w') : GetV p f n w e w' := by
  subst hp hf hn
  obtain ⟨A, c, he, ho, hb⟩ := h
  exact ⟨A, c, he, own_rd ho, hb⟩
theorem get_named {A : Option Addr} {c : Nat} {l : List Nat} (hcap : l.length ≤ c) (hl : l.length ≤ 140737488355328) (hby : Byt l) {w : World} (hA : Rd w.heap.size w A (u8s l)) {p n : Nat} {f : List Nat} (hp : getP l = p) (hf : getM l = f) (hn : getE l = n) {N : Nat} (hN : N = l.length) :
    Calls Try.prog 40 #[.slice A N c] w (GetV p f n w) := by subst hN; exact (get_any A c l hcap hl hby w hA).mono fun e w' h => h.v hp hf hn
set_option maxRecDepth 100000 in
set_option maxHeartbeats 2000000 in
theorem walk_MuxPuts (w : World) (p : Int) (hp : Fit p) (A : Option Addr) (c : Nat) (m : List Nat) (hA : In8 w A c m) (C : Option Addr) (d : Nat) (b : List Nat) (hC : In8 w C d b) :
    Calls Try.prog 7 #[.int .i64 p, .slice A m.length c, .slice C b.length d] w fun e w' => e = .returned (.bool true) ∧ Below w.heap.size w w' := by
  obtain ⟨f, hf⟩ : ∃ f, putM p m = f := ⟨_, rfl⟩
  obtain ⟨n, hn⟩ : ∃ n, putE p m = n := ⟨_, rfl⟩
  obtain ⟨gp, hgp⟩ : ∃ n, getP b = n := ⟨_, rfl⟩
  obtain ⟨gm, hgm⟩ : ∃ n, getM b = n := ⟨_, rfl⟩
  obtain ⟨ge, hge⟩ : ∃ n, getE b = n := ⟨_, rfl⟩
  have HP := hide (fun W h => (put_any p A c m W h).mono fun e w' h => h.v hf hn)
  have HQ := hide (fun W h => (rput_any p A c m W h).mono fun e w' h => h.v hf hn)
  have HG := hide (fun W h => (get_any C d b hC.cap hC.reach hC.byt W h).mono fun e w' h => h.v hgp hgm hge)
  have HK := hide (fun W h => (rget_any C d b hC.cap hC.reach hC.byt W h).mono fun e w' h => h.v hgp hgm hge)
  have hfl : f.length ≤ 64 := by
    rw [← hf]; unfold putM
    split
    · simp
    · split
      · simp
      · simp; omega
  have hgl : gm.length ≤ 140737488355328 := by
    have := hC.reach
    rw [← hgm]; unfold getM
    split
    · simp; omega
    · simp
  have HFL := hide hfl
  have HGL := hide hgl
  have HA := hide hA
  have HC := hide hC
  have HN := hide hn
  have HF := hide hf
  have n1 : ((n : Int) != (n : Int)) = false := by simp
  have n2 : ((gp : Int) != (gp : Int)) = false := by simp
  have n3 : ((ge : Int) != (ge : Int)) = false := by simp
  clear hA hC hf hn hgp hgm hge hfl hgl
  go_enter Try.func7, Try.ntmps7
  go_wp2_with fail
  refine (HP.out _ HA.out.rd).mono ?_; rintro e w1 ⟨X, cx, rfl, hox, hcx, hb1⟩
  have HX1 := hide hox
  have HCX := hide hcx
  have HB1 := hide hb1
  clear hox hb1 hcx
  go_wp2_with fail
  refine (HQ.out _ (HA.out.rd.on HB1.out)).mono ?_; rintro e w2 ⟨Y, cy, rfl, hoy, _, hb2⟩
  have HX2 := hide (own_on HX1.out hb2)
  have HY2 := hide (own_rd hoy)
  have HB2 := hide (below2 HB1.out hb2 (Nat.le_refl _))
  clear hoy hb2 HX1
  go_wp2_with fail
  refine (HG.out _ (HC.out.rd.on HB2.out)).mono ?_; rintro e w3 ⟨U, cu, rfl, hu, hb3⟩
  have HX3 := hide (own_on HX2.out hb3)
  have HY3 := hide (HY2.out.on hb3)
  have HU3 := hide hu
  have HB3 := hide (below2 HB2.out hb3 (Nat.le_refl _))
  clear hu hb3 HX2 HY2
  go_wp2_with fail
  refine (HK.out _ (HC.out.rd.on HB3.out)).mono ?_; rintro e w4 ⟨V, cv, rfl, hv, hb4⟩
  have HX4 := hide (own_on HX3.out hb4)
  have HY4 := hide (HY3.out.on hb4)
  have HU4 := hide (HU3.out.on hb4)
  have HV4 := hide hv
  have HB4 := hide (below2 HB3.out hb4 (Nat.le_refl _))
  clear hv hb4 HX3 HY3 HU3
  go_wp2_with fail
  refine (num40 _ _).mono ?_; rintro e w' ⟨rfl, rfl⟩
  go_wp2_with fail
  refine (same_eq (own_rd HX4.out) HY4.out (by have := HFL.out; omega)).mono ?_; rintro e w5 ⟨rfl, hb5⟩
  have HX5 := hide (own_on HX4.out hb5)
  have HU5 := hide (HU4.out.on hb5)
  have HV5 := hide (HV4.out.on hb5)
  have HB5 := hide (below2 HB4.out hb5 (Nat.le_refl _))
  clear hb5 HX4 HY4 HU4 HV4
  go_wp2_with fail
  refine (num40 _ _).mono ?_; rintro e w' ⟨rfl, rfl⟩
  go_wp2_with fail
  refine (same_eq HU5.out HV5.out (by have := HGL.out; omega)).mono ?_; rintro e w6 ⟨rfl, hb6⟩
  have HX6 := hide (own_on HX5.out hb6)
  have HB6 := hide (below2 HB5.out hb6 (Nat.le_refl _))
  clear hb6 HX5 HU5 HV5
  go_wp2_with fail
  refine (num40 _ _).mono ?_; rintro e w' ⟨rfl, rfl⟩
  by_cases hn0 : n = 0
  · subst hn0
    obtain ⟨h0, h8, h63, hM⟩ := putE_ok HN.out
    obtain ⟨q, rfl⟩ := Int.eq_ofNat_of_zero_le h0
    have hfq : f = q :: m := by rw [← HF.out, hM]; rfl
    have hok : getOk (q :: m) = true := by show decide _ = true; simp; omega
    have hx6 := own_rd HX6.out
    rw [hfq] at hx6
    have HG2 := hide (get_named (A := X) (c := cx) (l := q :: m) (p := q) (f := m) (n := 0) (N := f.length) (by rw [← hfq]; exact HCX.out) (by simp; omega) (by
      intro x hx
      rcases List.mem_cons.1 hx with e | e
      · omega
      · exact HA.out.byt x e) hx6 (by unfold getP; rw [hok]; rfl) (by unfold getM; rw [hok]; rfl) (by unfold getE; rw [hok]; rfl) (by rw [hfq]))
    have nq : ((q : Int) == (q : Int)) = true := by simp
    clear h0 h8 h63 hM hfq hok hx6 n1
    go_wp2_with fail
    refine HG2.out.mono ?_; rintro e w7 ⟨Z, cz, rfl, hz, hb7⟩
    have HZ := hide hz
    have HB7 := hide (below2 HB6.out hb7 (Nat.le_refl _))
    clear hz hb7
    go_wp2_with fail
    refine (num40 _ _).mono ?_; rintro e w' ⟨rfl, rfl⟩
    go_wp2_with fail
    refine (same_eq HZ.out (HA.out.rd.on HB7.out) HA.out.len).mono ?_; rintro e w8 ⟨rfl, hb8⟩
    go_wp2_with fail
    refine (live40 _).mono ?_; rintro e w9 ⟨rfl, hb9⟩
    go_wp2
    go_ret
    exact ⟨rfl, below2 (below2 HB7.out hb8 (Nat.le_refl _)) hb9 (Nat.le_refl _)⟩
  · have hn1 : ((n : Int) != 0) = true := by simp; omega
    clear hn0
    go_wp2_with fail
    refine (live40 _).mono ?_; rintro e w9 ⟨rfl, hb9⟩
    go_wp2
    go_ret
    exact ⟨rfl, below2 HB6.out hb9 (Nat.le_refl _)⟩
end Go.Proofs.Ytfcappddncnglaa
