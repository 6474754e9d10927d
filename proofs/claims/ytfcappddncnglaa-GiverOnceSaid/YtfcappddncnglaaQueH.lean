/- Layer 19: the law QueueApart, walked. No conditions. -/
import Derived.Test.YtfcappddncnglaaQueG
namespace Go.Proofs.Ytfcappddncnglaa
open Go.RowKit
set_option linter.unusedVariables false

theorem que_all1 {w : World} {B g room : Nat} {m : List Nat} {F : Nat → Prop} (h : Qu w B g room [m] F) :
    Calls Try.prog 29 #[.pointer (some ⟨g, 0, none⟩)] w fun e w' => ∃ gy c A ca, e = .returned (.slice (some ⟨gy, 0, none⟩) 1 c) ∧ w'.cell? ⟨gy, 0, none⟩ = some (.slice A m.length ca) ∧ w.heap.size ≤ gy ∧ gy < w'.heap.size ∧ w'.ownsRow w.heap.size 5 1 (.slice A m.length ca) m.length (u8s m) ∧ A ≠ some ⟨gy, 0, none⟩ ∧ Below w.heap.size w w' := by
  refine (que_all h).mono ?_
  rintro e w' ⟨A, c, vs, rfl, ho, ht, hb⟩
  obtain ⟨v, hv, hov, hd⟩ := ht.2 0 m rfl
  obtain ⟨gy, rfl, h1, h2⟩ := own_where ho (by simp)
  obtain ⟨A, ca, rfl, _⟩ := own_val hov
  exact ⟨gy, c, A, ca, rfl, own_cell ho hv, h1, h2, hov, fun e => hd gy (by rw [e]; rfl) rfl, hb⟩
/-- a queue is off a block that it has not. -/
theorem Qu.far {w : World} {B g room : Nat} {ms : List (List Nat)} {F : Nat → Prop} (h : Qu w B g room ms F) {k : Nat} (hk : ¬ F k) (o : Nat) (v : Value) : Qu (w.setCell ⟨k, o, none⟩ v) B g room ms F :=
  h.kept (fun i hi => Below.heap_setCell w ⟨k, o, none⟩ v i (fun e => hk (by simp only at e; exact e ▸ hi))) (by simp [World.setCell])
set_option maxRecDepth 100000 in
set_option maxHeartbeats 2000000 in
theorem apart_in (w : World) (A : Option Addr) (c : Nat) (m : List Nat) (hA : In8 w A c m) (h0 : 0 < m.length) (h64 : m.length ≤ 64) :
    Calls Try.prog 5 #[.slice A m.length c] w fun e w' => e = .returned (.bool true) ∧ Below w.heap.size w w' := by
  have HA := hide hA
  have t0 : ((m.length : Int) == 0) = false := beq_eq_false_iff_ne.2 (by omega)
  have t64 : ¬ (64 : Int) < (m.length : Int) := by omega
  obtain ⟨x0, hx0⟩ : ∃ x, m[0]? = some x := ⟨_, List.getElem?_eq_getElem h0⟩
  have HX0 := hide hx0
  have H0 := hide h0
  have H64 := hide h64
  have i0 : (0 : Int) < (m.length : Int) := by omega
  clear hA h64 hx0 h0
  go_enter Try.func5, Try.ntmps5
  go_wp2_with fail
  refine (que_new 2 (by omega) (by omega) _).mono ?_; rintro e w1 ⟨g, F, rfl, hq1, hb1⟩
  rw [show (2 : Int).toNat = 2 from rfl] at hq1
  have HQ1 := hide hq1
  have HB1 := hide hb1
  have HCO := hide (copy_u8 A c m (by have := H64.out; omega) w1 (HA.out.rd.on hb1))
  clear hq1 hb1
  go_wp2_with fail
  refine HCO.out.mono ?_; rintro e w2 ⟨b, cb, rfl, ho2, hb2⟩
  obtain ⟨gb, rfl, hgb1, hgb2⟩ := own_where ho2 H0.out
  have HO2 := hide ho2
  have HQ2 := hide (HQ1.out.on hb2)
  have HB2 := hide (below2 HB1.out hb2 (Nat.le_refl _))
  have HGB := hide (show ¬ F gb from fun hf => by have := (HQ1.out.1 gb hf).2; omega)
  have HGW := hide (Nat.le_trans HB1.out.size hgb1)
  have HPU := hide (que_push HQ2.out (some ⟨gb, 0, none⟩) cb m (own_rd ho2))
  rw [show pushE 2 [] m = 0 by unfold pushE; rw [if_neg (by have := H64.out; omega), if_neg (by simp)], show pushL 2 [] m = [m] by unfold pushL; rw [if_neg (by have := H64.out; omega), if_neg (by simp)]; rfl] at HPU
  clear ho2 hb2 HCO
  go_wp2_with fail
  refine HPU.out.mono ?_; rintro e w3 ⟨F3, rfl, hq3, ht3⟩
  have hgn : ¬ F3 gb := fun hf => (ht3.new gb hf).elim HGB.out (by omega)
  have HO3 := hide (own_keep HO2.out (fun k hk => ht3.block k (own_block_lt HO2.out hk).2 (fun hf => by have hk2 : some gb = some k := hk; injection hk2 with hk2; exact HGB.out (hk2 ▸ hf))))
  have c3 := own_cell HO3.out (u8s_get HX0.out)
  have f3 : w3.frozen? ⟨gb, 0, none⟩ = false := HO3.out.frozenAt 0
  have HQ4 := hide (hq3.far hgn 0 (.int .u8 (bits .xor .u8 (x0 : Int) 1)))
  have HB4 := hide ((ht3.below HB2.out HQ2.out.1 HB2.out.size).setCell (p := ⟨gb, 0, none⟩) HGW.out (.int .u8 (bits .xor .u8 (x0 : Int) 1)))
  clear hq3 ht3 hgn hgb1 hgb2 HPU
  go_wp2_with fail
  refine (que_front1 HQ4.out).mono ?_; rintro e w5 ⟨X, cx, rfl, ho5, hb5⟩
  obtain ⟨gx, rfl, hgx1, hgx2⟩ := own_where ho5 H0.out
  have HO5 := hide ho5
  have HQ5 := hide (HQ4.out.on hb5)
  have HB5 := hide (below2 HB4.out hb5 (Nat.le_refl _))
  have HGX := hide (show ¬ F3 gx from fun hf => by have := (HQ4.out.1 gx hf).2; omega)
  have HGXW := hide (Nat.le_trans HB4.out.size hgx1)
  clear ho5 hb5 hgx1 hgx2 c3 f3
  go_wp2_with fail
  refine (que_all1 HQ5.out).mono ?_; rintro e w6 ⟨gy, cy, T, ct, rfl, hcy, hgy1, hgy2, hot, hty, hb6⟩
  obtain ⟨gt, rfl, hgt1, hgt2⟩ := own_where hot H0.out
  have hxy : gx ≠ gt := fun e => by have := own_lt HO5.out; omega
  have hyt : gt ≠ gy := fun e => hty (by rw [e])
  have HO6 := hide (own_on HO5.out hb6)
  have HOT := hide hot
  have HQ6 := hide (HQ5.out.on hb6)
  have HB6 := hide (below2 HB5.out hb6 (Nat.le_refl _))
  have HGT := hide (show ¬ F3 gt from fun hf => by have := (HQ5.out.1 gt hf).2; omega)
  have HGTW := hide (Nat.le_trans HB5.out.size hgt1)
  have HCY := hide hcy
  have HNE := hide (And.intro hxy hyt)
  clear hot hb6 hgt1 hgt2 hgy1 hgy2 hty hxy hyt
  go_wp2_with fail
  refine (same_eq (own_rd HO6.out) (HA.out.rd.on HB6.out) HA.out.len).mono ?_; rintro e w7 ⟨rfl, hb7⟩
  have HO7 := hide (own_on HO6.out hb7)
  have HT7 := hide (own_on HOT.out hb7)
  have HQ7 := hide (HQ6.out.on hb7)
  have HB7 := hide (below2 HB6.out hb7 (Nat.le_refl _))
  have hcy7 : w7.cell? ⟨gy, 0, none⟩ = some (.slice (some ⟨gt, 0, none⟩) m.length ct) := (hb7.cell (World.block_lt_of_cell? w6 _ hcy)).trans hcy
  clear hb7 hcy
  go_wp2_with fail
  refine (same_eq (own_rd HT7.out) (HA.out.rd.on HB7.out) HA.out.len).mono ?_; rintro e w8 ⟨rfl, hb8⟩
  have HO8 := hide (own_on HO7.out hb8)
  have HT8 := hide (own_on HT7.out hb8)
  have HQ8 := hide (HQ7.out.on hb8)
  have HB8 := hide (below2 HB7.out hb8 (Nat.le_refl _))
  have hcy8 : w8.cell? ⟨gy, 0, none⟩ = some (.slice (some ⟨gt, 0, none⟩) m.length ct) := (hb8.cell (World.block_lt_of_cell? w7 _ hcy7)).trans hcy7
  have cx8 := own_cell HO8.out (u8s_get HX0.out)
  have ct8 := own_cell HT8.out (u8s_get HX0.out)
  have fx8 : w8.frozen? ⟨gx, 0, none⟩ = false := HO8.out.frozenAt 0
  have ft8 : w8.frozen? ⟨gt, 0, none⟩ = false := HT8.out.frozenAt 0
  obtain ⟨VX, hvx⟩ : ∃ v, v = Value.int .u8 (bits .xor .u8 (x0 : Int) 1) := ⟨_, rfl⟩
  have HT9 := hide (own_keep HT8.out (w' := w8.setCell ⟨gx, 0, none⟩ VX) (fun k hk => Below.heap_setCell w8 ⟨gx, 0, none⟩ _ k (fun e => by have hk2 : some gt = some k := hk; injection hk2 with hk2; simp only at e; exact HNE.out.1 (by omega))))
  have ct9 := own_cell HT9.out (u8s_get HX0.out)
  have ft9 : (w8.setCell ⟨gx, 0, none⟩ VX).frozen? ⟨gt, 0, none⟩ = false := HT9.out.frozenAt 0
  have HQ9 := hide ((HQ8.out.far HGX.out 0 VX).far HGT.out 0 VX)
  have HB9 := hide ((HB8.out.setCell (p := ⟨gx, 0, none⟩) HGXW.out VX).setCell (p := ⟨gt, 0, none⟩) HGTW.out VX)
  rw [hvx] at ct9 ft9 HQ9 HB9
  clear hb8 hcy7 hvx
  go_wp2
  go_region
  go_wp2_with fail
  refine Calls.mono (que_pop1 (m := m) (ms := []) (B := w.heap.size) (g := g) (room := 2) (F := F3) ?_) ?_
  · exact HQ9.out
  rintro e w10 ⟨Z, cz, rfl, hoz, hq10, ht10⟩
  have HBT := hide (ht10.below (show Below w.heap.size w _ from HB9.out.drew) HQ9.out.1 HB9.out.size)
  have HOZ := hide (own_rd hoz)
  clear hoz hq10 ht10
  go_wp2_with fail
  refine (same_eq HOZ.out (HA.out.rd.on HBT.out) HA.out.len).mono ?_; rintro e w11 ⟨rfl, hb11⟩
  go_wp2_with fail
  refine (live19 _).mono ?_; rintro e w12 ⟨rfl, hb12⟩
  go_wp2
  go_ret
  exact ⟨rfl, below2 (below2 HBT.out hb11 (Nat.le_refl _)) hb12 (Nat.le_refl _)⟩
theorem walk_QueueApart (w : World) (A : Option Addr) (c : Nat) (m : List Nat) (hA : In8 w A c m) :
    Calls Try.prog 5 #[.slice A m.length c] w fun e w' => e = .returned (.bool true) ∧ Below w.heap.size w w' := by
  by_cases h : m.length = 0 ∨ 64 < m.length
  · exact apart_no w A _ c h
  · exact apart_in w A c m hA (by omega) (by omega)
end Go.Proofs.Ytfcappddncnglaa
