/- Layer 18's reference tally: Add. No conditions. -/
import Derived.Test.YtnbhgeodbpelgaaTalJ
namespace Go.Proofs.Ytnbhgeodbpelgaa
open Go.RowKit
set_option linter.unusedVariables false
attribute [local go_sem ↓] Go.wp_at_zero Go.wp_at_succ

theorem Try.infRR : (Try.prog.info? 138).map (fun i => (i.zero, i.size, i.bytes)) = some (some (.agg #[.int .i64 0, .slice none 0 0, .int .u64 0]), 3, 40) := by kernel_rfl
section
variable {w w' : World} {B gt cV : Nat} {V : Option Addr} {s : List Trow} {F : Nat → Prop}
theorem RTaAt.up (h : RTaAt w B gt V cV s F) {i : Nat} {r : Trow} (hi : s[i]? = some r) {b : Nat} (hV : V = some ⟨b, 0, none⟩) (hg : b ≠ gt) :
    RTaAt (w.setCell ⟨b, i * 3 + 2, none⟩ (.int .u64 ((r.2.2 + 1 : Nat) : Int))) B gt V cV (upT s i) F ∧ Turn F F w (w.setCell ⟨b, i * 3 + 2, none⟩ (.int .u64 ((r.2.2 + 1 : Nat) : Int))) := by
  obtain ⟨hr, ht⟩ := Rws.up h.rows hi hV
  refine ⟨⟨h.foot.on ht.size, h.fg, ?_, hr, h.ok.up i⟩, ht⟩
  rw [upT_len]; exact h.blk.kept (Below.heap_setCell w ⟨b, i * 3 + 2, none⟩ _ gt (fun e => hg e.symm))
def RAddR (w : World) (B gt : Nat) (s : List Trow) (F : Nat → Prop) (lb : Int) (m : List Nat) (e : Ending) (w' : World) : Prop :=
  ∃ F', e = .returned (.int .u64 (cntT (addT s lb m) lb m : Nat)) ∧ RTa w' B gt (addT s lb m) F' ∧ Turn F F' w w'
set_option maxRecDepth 100000 in
set_option maxHeartbeats 4000000 in
theorem rta_add_some (h : RTaAt w B gt V cV s F) (hT : tot s ≤ 1000000) (lb : Int) (A : Option Addr) (c : Nat) (m : List Nat) (hA : Rd w.heap.size w A (u8s m)) {i : Nat} (hx : idxT s lb m = some i) :
    Calls Try.prog 48 #[.pointer (some ⟨gt, 0, none⟩), .int .i64 lb, .slice A m.length c] w (RAddR w B gt s F lb m) := by
  have HI := hide (rta_at ⟨_, _, h⟩ hT lb A c m hA)
  rw [show atV s lb m = (i : Int) by unfold atV; rw [hx]] at HI
  obtain ⟨cn, hcn⟩ := idx_some hx
  have hil := idx_lt hx
  have hcle : cn ≤ 1000000 := Nat.le_trans (tot_ge (List.mem_of_getElem? hcn)) hT
  have e1 : addT s lb m = upT s i := by unfold addT; rw [hx]
  have e2 := cnt_add_some hx hcn
  unfold RAddR
  rw [e2, e1]
  have hlen : s.length ≤ 1000000 := Nat.le_trans h.ok.len hT
  have g0 : (0 : Int) ≤ (i : Int) := by omega
  have g1 : (i : Int) < (s.length : Int) := by omega
  have g2 : ¬ (i : Int) < 0 := by omega
  have HH := hide h
  have HCN := hide hcn
  clear h hx hA hcn hil e1 e2
  go_enter Try.func48, Try.ntmps48
  go_wp2_with fail
  refine HI.out.mono ?_; rintro e w1 ⟨rfl, hb1⟩
  have h1 := HH.out.on hb1
  have c0 := h1.blk.cell (i := 0) rfl
  obtain ⟨b, D, cD, hVe, _, hbF, _, _, q2, fz, _⟩ := h1.rows.get HCN.out
  dsimp only at q2 fz
  obtain ⟨hr7, ht7⟩ := h1.up HCN.out hVe hbF.2
  have HR7 := hide hr7
  have HT7 := hide ((Turn.of_below hb1).trans ht7)
  have hgb : b ≠ gt := hbF.2
  subst hVe
  clear hr7 ht7 h1 hb1 hbF
  go_wp2
  go_ret
  exact ⟨F, by first | rfl | (congr; omega), ⟨_, cV, HR7.out⟩, HT7.out⟩
/-- a row has been pushed, and the field that leads to the rows is another one. -/
theorem rrows_pushed {L : List (Trow × Value)} {w4 w5 : World} {V' : Option Addr} {cV' : Nat} {r : Trow} {v : Value} (hF : Foot F B w) (fg : F gt) (hb : Blk w gt 85 [.slice V s.length cV]) (hok : OkT (s ++ [r]))
    (hL : L.map Prod.fst = s) (h2 : w.ownsRow B 138 3 (.slice V s.length cV) s.length (rwsC L)) (h3 : ∀ k, (Value.slice V s.length cV).ownBlock = some k → F k ∧ ¬ k = gt)
    (h4 : ∀ x ∈ L, OwnX w x.2 x.1.2.1 ∧ ∀ k, x.2.ownBlock = some k → F k ∧ ¬ k = gt ∧ (Value.slice V s.length cV).ownBlock ≠ some k)
    (hb1 : Below w.heap.size w w4) (ht : w4.ownsRow w.heap.size 5 1 v r.2.1.length (u8s r.2.1)) (hrow : w5.ownsRow B 138 3 (.slice V' (s.length + 1) cV') (s.length + 1) (rwsC L ++ rwC (r, v)))
    (hg : w4.grownBy w5 (Value.slice V s.length cV).ownBlock) (hat : (Value.slice V' (s.length + 1) cV').ownBlock = (Value.slice V s.length cV).ownBlock ∨ (Value.slice V' (s.length + 1) cV').ownBlock = some (w4.heap.size + 1)) :
    let w6 := w5.setCell ⟨gt, 0, none⟩ (.slice V' (s.length + 1) cV')
    RTaAt w6 B gt V' cV' (s ++ [r]) (more F w w5) ∧ Turn F (more F w w5) w w6 := by
  intro w6
  obtain ⟨p1, p2⟩ := Rws.push (G := fun k => k = gt) hL h2 h3 h4 hF (by rintro k rfl; exact (hF _ fg).2) hb1 ht hrow hg hat
  have hfar : ∀ k, k ≠ gt → w6.heap[k]? = w5.heap[k]? := fun k hk => Below.heap_setCell w5 ⟨gt, 0, none⟩ _ k hk
  have hs6 : w6.heap.size = w5.heap.size := by simp [w6, World.setCell]
  have hb5 : Blk w5 gt 85 [.slice V s.length cV] := (hb.on hb1).grown hg (fun e => (h3 gt e.symm).2 rfl)
  refine ⟨⟨?_, .inl fg, ?_, p1.kept (fun k hk hn => hfar k hn) (by omega), hok⟩, p2.set fg 0 _⟩
  · rintro k (hk | hk)
    · exact ⟨(hF k hk).1, by have := (hF k hk).2; have := p2.size; omega⟩
    · have := (hF gt fg).1; have := (hF gt fg).2; omega
  · rw [List.length_append, List.length_singleton]; exact hb5.set 0 _
set_option maxRecDepth 100000 in
set_option maxHeartbeats 8000000 in
theorem rta_add_none (h : RTaAt w B gt V cV s F) (hT : tot s ≤ 1000000) (lb : Int) (hl : Fit lb) (A : Option Addr) (c : Nat) (m : List Nat) (hA : Rd w.heap.size w A (u8s m)) (hm : Byt m) (hml : m.length ≤ 1000000) (hx : idxT s lb m = none) :
    Calls Try.prog 48 #[.pointer (some ⟨gt, 0, none⟩), .int .i64 lb, .slice A m.length c] w (RAddR w B gt s F lb m) := by
  obtain ⟨i0, hi, hz0, hz1, hz2⟩ := info_parts Try.infRR
  have HI := hide (rta_at ⟨_, _, h⟩ hT lb A c m hA)
  rw [show atV s lb m = -1 by unfold atV; rw [hx]] at HI
  have e1 : addT s lb m = s ++ [(lb, m, 1)] := by unfold addT; rw [hx]
  have e2 := cnt_add_none hx
  unfold RAddR
  rw [e2, e1]
  have hlen : s.length ≤ 1000000 := Nat.le_trans h.ok.len hT
  have HOK := hide (h.ok.push hl hm hml)
  have HH := hide h
  have HA := hide hA
  have HML := hide hml
  have g1 : s.length + 1 ≤ 9223372036854775807 := by omega
  have g2 : (s.length + 1) * 40 ≤ 140737488355328 := by omega
  clear h hx hA hm hml hl e1 e2 hT
  go_enter Try.func48, Try.ntmps48
  go_wp2_with fail
  refine HI.out.mono ?_; rintro e w1 ⟨rfl, hb1⟩
  have h1 := HH.out.on hb1
  have HB1 := hide hb1
  obtain ⟨L, hL, ho, hV3, h4⟩ := h1.rows
  have HPU := hide (fun (w4 w5 : World) (v : Value) (V' : Option Addr) (cV' : Nat) => rrows_pushed (w := w1.drew) (w4 := w4) (w5 := w5) (v := v) (V' := V') (cV' := cV') (r := (lb, m, 1)) h1.foot h1.fg h1.blk HOK.out hL ho hV3 h4)
  have HO := hide (show w1.drew.ownsRow B 138 3 (.slice V s.length cV) s.length (rwsC L) from ho)
  have HBK := hide (show Blk w1.drew gt 85 [.slice V s.length cV] from h1.blk)
  have HNV : Hid (some gt ≠ (Value.slice V s.length cV).ownBlock) := fun e => (hV3 gt e.symm).2 rfl
  have HBB : Hid (B ≤ w1.drew.heap.size) := Nat.le_trans (h1.foot gt h1.fg).1 (Nat.le_of_lt (h1.foot gt h1.fg).2)
  have HCL := hide (copy_u8 A c m (by have := HML.out; omega) w1.drew (show Rd w1.heap.size w1.drew A (u8s m) from HA.out.on hb1))
  have c0 : w1.cell? ⟨gt, 0, none⟩ = some (.slice V s.length cV) := h1.blk.cell (i := 0) rfl
  clear h1 hb1 hL ho hV3 h4 HI
  go_wp2
  go_region_law (first
    | (refine step_app3 w4 (by rfl) (.tmp 18) (.tmp 23) 83 (by rfl) B 138 i0 (.agg #[.int .i64 0, .slice none 0 0, .int .u64 0]) 40 Try.underlying83 hi hz0 hz1 hz2 (by rfl) (.slice V s.length cV) s.length (rwsC L) (by rfl) (own_on HO.out hq1) (.int .i64 lb) (.slice A1 m.length c1) (.int .u64 1) (by rfl) (by rfl) (by rfl) (by rfl) g1 g2 (Nat.le_trans HBB.out hq1.size) ?_; intro v' w5 hown1 hg1 hat1; obtain ⟨A', c', rfl, _⟩ := own_form hown1; have hb5 := (HBK.out.on hq1).grown hg1 HNV.out; have f3 : w5.frozen? ⟨gt, 0, none⟩ = false := hb5.free 0; have e3 : w5.cell? ⟨gt, 0, none⟩ = some (.slice V s.length cV) := hb5.cell (i := 0) rfl)
    | (go_simp; go_at_call 55; (with_reducible refine HCL.out.mono ?_); rintro e w4 ⟨A1, c1, rfl, hq0, hq1⟩; have d2 : w4.cell? ⟨gt, 0, none⟩ = some (.slice V s.length cV) := (HBK.out.on hq1).cell (i := 0) rfl; have d2a : ∀ o : Obj, (w4.alloc o).cell? ⟨gt, 0, none⟩ = some (.slice V s.length cV) := fun o => ((HBK.out.on hq1).alloc o).cell (i := 0) rfl))
  all_goals
    obtain ⟨p1, p2⟩ := HPU.out w4 w5 (.slice A1 m.length c1) A' c' hq1 hq0 hown1 hg1 hat1
    have HP1 := hide p1
    have HT6 := hide ((Turn.of_below (F := F) HB1.out).drew.trans p2)
    clear p1 p2 hown1 hg1 hat1 hb5 f3 e3 hq0 hq1 d2 d2a HPU HO HBK HNV HBB HCL c0
    go_wp2
    go_ret
    first | exact ⟨rfl, _, ⟨_, _, HP1.out⟩, HT6.out⟩ | exact ⟨_, rfl, ⟨_, _, HP1.out⟩, HT6.out⟩
theorem rta_add (h : RTa w B gt s F) (hT : tot s ≤ 1000000) (lb : Int) (hl : Fit lb) (A : Option Addr) (c : Nat) (m : List Nat) (hA : Rd w.heap.size w A (u8s m)) (hm : Byt m) (hml : m.length ≤ 1000000) :
    Calls Try.prog 48 #[.pointer (some ⟨gt, 0, none⟩), .int .i64 lb, .slice A m.length c] w (RAddR w B gt s F lb m) := by
  obtain ⟨V, cV, h⟩ := h
  cases hx : idxT s lb m with
  | none => exact rta_add_none h hT lb hl A c m hA hm hml hx
  | some i => exact rta_add_some h hT lb A c m hA hx
end
end Go.Proofs.Ytnbhgeodbpelgaa
