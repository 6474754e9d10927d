/- Layer 18's tally: Add. No conditions. -/
import Derived.Test.YtnbhgeodbpelgaaTalD
import Derived.Deep.Cut
namespace Go.Proofs.Ytnbhgeodbpelgaa
open Go.RowKit Go.Maps
set_option linter.unusedVariables false
attribute [local go_sem ↓] Go.wp_at_zero Go.wp_at_succ

theorem Try.infR : (Try.prog.info? 96).map (fun i => (i.zero, i.size, i.bytes)) = some (some (.agg #[.int .i64 0, .slice none 0 0, .int .u64 0]), 3, 40) := by kernel_rfl
/-- what is read of cells stays while a map turns. -/
theorem rd_map {w w' : World} {bm n : Nat} {f : Int → List Nat → Option Nat} {A : Option Addr} {xs : List Value} (h : Rd w.heap.size w A xs) (hm : mapK w bm n f) (hg : w.grownBy w' (some bm)) : Rd w'.heap.size w' A xs := fun hn => by
  obtain ⟨b, o, rfl, hb, hc⟩ := h hn
  obtain ⟨D, ⟨es, clock, hbm, _⟩, _⟩ := hm
  have hne : b ≠ bm := fun e => by
    subst e
    have := hc 0 _ (List.getElem?_eq_getElem hn)
    unfold World.cell? at this
    simp [hbm] at this
  exact ⟨b, o, rfl, Nat.lt_of_lt_of_le hb hg.size, fun j u hj => (World.cell?_of_block (hg.block b hb (fun e => hne (Option.some.inj e)))).trans (hc j u hj)⟩
section
variable {w w' : World} {B gt bm cV : Nat} {V : Option Addr} {s : List Trow} {F : Nat → Prop}
/-- a row's count goes up by one. -/
theorem TaAt.up (h : TaAt w B gt bm V cV s F) {i : Nat} {r : Trow} (hi : s[i]? = some r) {b : Nat} (hV : V = some ⟨b, 0, none⟩) (hg : b ≠ gt) (hm : b ≠ bm) :
    TaAt (w.setCell ⟨b, i * 3 + 2, none⟩ (.int .u64 ((r.2.2 + 1 : Nat) : Int))) B gt bm V cV (upT s i) F ∧ Turn F F w (w.setCell ⟨b, i * 3 + 2, none⟩ (.int .u64 ((r.2.2 + 1 : Nat) : Int))) := by
  obtain ⟨hr, ht⟩ := Rws.up h.rows hi hV
  have hfar : ∀ k, k ≠ b → (w.setCell ⟨b, i * 3 + 2, none⟩ (.int .u64 ((r.2.2 + 1 : Nat) : Int))).heap[k]? = w.heap[k]? := fun k hk => Below.heap_setCell w ⟨b, i * 3 + 2, none⟩ _ k hk
  refine ⟨⟨h.foot.on ht.size, h.fg, h.fb, h.ne, ?_, hr, ?_, h.ok.up i⟩, ht⟩
  · rw [upT_len]; exact h.blk.kept (hfar gt (fun e => hg e.symm))
  · rw [upT_len, idx_up]; exact mapK_same h.map (hfar bm (fun e => hm e.symm))
def AddR (w : World) (B gt : Nat) (s : List Trow) (F : Nat → Prop) (lb : Int) (m : List Nat) (e : Ending) (w' : World) : Prop :=
  ∃ F', e = .returned (.int .u64 (cntT (addT s lb m) lb m : Nat)) ∧ Ta w' B gt (addT s lb m) F' ∧ Turn F F' w w'
set_option maxRecDepth 100000 in
set_option maxHeartbeats 4000000 in
theorem ta_add_some (h : TaAt w B gt bm V cV s F) (hT : tot s ≤ 1000000) (lb : Int) (hl : Fit lb) (A : Option Addr) (c : Nat) (m : List Nat) (hA : Rd w.heap.size w A (u8s m)) (hm : Byt m) (hml : m.length ≤ 1000000) {i : Nat} (hx : idxT s lb m = some i) :
    Calls Try.prog 47 #[.pointer (some ⟨gt, 0, none⟩), .int .i64 lb, .slice A m.length c] w (AddR w B gt s F lb m) := by
  have HI := hide (ta_is ⟨_, _, _, h⟩)
  obtain ⟨cn, hcn⟩ := idx_some hx
  have hil := idx_lt hx
  have hcle : cn ≤ 1000000 := Nat.le_trans (tot_ge (List.mem_of_getElem? hcn)) hT
  have e1 : addT s lb m = upT s i := by unfold addT; rw [hx]
  have e2 := cnt_add_some hx hcn
  unfold AddR
  rw [e2, e1]
  have hcv := run_text0 (P := Try.prog) (c := c) (src := 34) (dst := 9) Try.underlying34 Try.underlying5 Try.underlying9 hA
  have hk1 := strM_size m
  have hlk0 := fun (W : World) (hW : W.heap[bm]? = w.heap[bm]?) => mapK_get (mapK_same h.map hW) hl hm (by omega)
  rw [hx] at hlk0
  unfold keyV strM at hlk0
  obtain ⟨S, hS⟩ : ∃ S, S = strOfNums (m.map fun n : Nat => (n : Int)) := ⟨_, rfl⟩
  rw [← hS] at hcv hlk0
  obtain ⟨w1, hw1⟩ : ∃ w1, w1 = w.alloc (.cells #[.int .i64 lb, .string S] 134) := ⟨_, rfl⟩
  have hb1 : Below w.heap.size w w1 := by rw [hw1]; exact (Below.refl _ _).alloc (Nat.le_refl _) _
  have h1 := h.on hb1
  have HX1 : Hid (Blk w1 w.heap.size 134 [.int .i64 lb, .string S]) := by rw [hw1]; exact Blk.new w _ _
  have k0 := HX1.out.cell (i := 0) rfl
  have k1 := HX1.out.cell (i := 1) rfl
  have hlk : (Instr.lookup 130 (.map (some bm)) (.agg #[.int .i64 lb, .string S]) true).run Try.prog w1.drew = .ok (.tuple #[.int .i64 (i : Int), .bool true]) w1.drew := hlk0 w1.drew (hb1.block bm (h.foot bm h.fb).2)
  obtain ⟨c0, c1⟩ := h1.cells
  obtain ⟨b, D, cD, hVe, _, hbF, q0, q1, q2, fz, _⟩ := h1.rows.get hcn
  have g0 : (0 : Int) ≤ (i : Int) := by omega
  have g1 : (i : Int) < (s.length : Int) := by omega
  have hlen : s.length ≤ 1000000 := Nat.le_trans h.ok.len hT
  obtain ⟨hr7, ht7⟩ := (h1.on (Below.refl w1.heap.size w1).drew).up hcn hVe (fun e => hbF.2 (.inl e)) (fun e => hbF.2 (.inr e))
  have H1 := hide h1
  have HB1 := hide hb1
  have HR7 := hide hr7
  have HT7 := hide ht7
  have HW1 := hide hw1
  have hgb : b ≠ gt := fun e => hbF.2 (.inl e)
  have hgm : b ≠ bm := fun e => hbF.2 (.inr e)
  subst hVe
  dsimp only at q2 fz
  clear h hx hA hm hml hl hcn hil hlk0 hS hb1 h1 hr7 ht7 hw1 q0 q1 hbF e1 e2 hk1
  go_enter Try.func47, Try.ntmps47
  go_wp2_with fail
  refine HI.out.mono ?_; rintro e w' ⟨rfl, rfl⟩
  go_upto_region 4 with (fail)
  rw [← HW1.out]
  go_region_held3 (fun W => W.cell? ⟨gt, 0, none⟩ = some (.map (some bm)) ∧ W.cell? ⟨w.heap.size, 0, none⟩ = some (.int .i64 lb) ∧ W.cell? ⟨w.heap.size, 1, none⟩ = some (.string S)) (go_keep) (fail)
  go_wp2
  go_ret
  exact ⟨F, by first | rfl | (congr; omega), ⟨bm, _, cV, HR7.out⟩, (Turn.of_below HB1.out).drew.trans HT7.out⟩
/-- a row has been pushed, and the field that leads to the rows is another one. -/
theorem rows_pushed {L : List (Trow × Value)} {w4 w5 : World} {V' : Option Addr} {cV' : Nat} {r : Trow} {v : Value} (hF : Foot F B w) (fg : F gt) (fb : F bm) (ne : gt ≠ bm) (hb : Blk w gt 132 [.map (some bm), .slice V s.length cV])
    (hL : L.map Prod.fst = s) (h2 : w.ownsRow B 96 3 (.slice V s.length cV) s.length (rwsC L)) (h3 : ∀ k, (Value.slice V s.length cV).ownBlock = some k → F k ∧ ¬ two gt bm k)
    (h4 : ∀ x ∈ L, OwnX w x.2 x.1.2.1 ∧ ∀ k, x.2.ownBlock = some k → F k ∧ ¬ two gt bm k ∧ (Value.slice V s.length cV).ownBlock ≠ some k)
    (hb1 : Below w.heap.size w w4) (ht : w4.ownsRow w.heap.size 5 1 v r.2.1.length (u8s r.2.1)) (hrow : w5.ownsRow B 96 3 (.slice V' (s.length + 1) cV') (s.length + 1) (rwsC L ++ rwC (r, v)))
    (hg : w4.grownBy w5 (Value.slice V s.length cV).ownBlock) (hat : (Value.slice V' (s.length + 1) cV').ownBlock = (Value.slice V s.length cV).ownBlock ∨ (Value.slice V' (s.length + 1) cV').ownBlock = some (w4.heap.size + 1)) :
    let w6 := w5.setCell ⟨gt, 1, none⟩ (.slice V' (s.length + 1) cV')
    Rws w6 B 96 (two gt bm) V' cV' (s ++ [r]) (more F w w5) ∧ Turn F (more F w w5) w w6 ∧ Blk w6 gt 132 [.map (some bm), .slice V' (s.length + 1) cV'] ∧ w6.heap[bm]? = w.heap[bm]? ∧ Foot (more F w w5) B w6 := by
  intro w6
  obtain ⟨p1, p2⟩ := Rws.push hL h2 h3 h4 hF (by rintro k (rfl | rfl); exact (hF _ fg).2; exact (hF _ fb).2) hb1 ht hrow hg hat
  have hfar : ∀ k, k ≠ gt → w6.heap[k]? = w5.heap[k]? := fun k hk => Below.heap_setCell w5 ⟨gt, 1, none⟩ _ k hk
  have hs6 : w6.heap.size = w5.heap.size := by simp [w6, World.setCell]
  have hV : ∀ k, k = gt ∨ k = bm → (Value.slice V s.length cV).ownBlock ≠ some k := fun k hk e => (h3 k e).2 hk
  have hbm5 : w5.heap[bm]? = w.heap[bm]? := (hg.block bm (Nat.lt_of_lt_of_le (hF _ fb).2 hb1.size) (fun e => hV bm (.inr rfl) e.symm)).trans (hb1.block bm (hF _ fb).2)
  have hb5 : Blk w5 gt 132 [.map (some bm), .slice V s.length cV] := (hb.on hb1).grown hg (fun e => hV gt (.inl rfl) e.symm)
  refine ⟨p1.kept (fun k hk hn => hfar k (fun e => hn (.inl e))) (by omega), p2.set fg 1 _, hb5.set 1 _, (hfar bm (fun e => ne e.symm)).trans hbm5, ?_⟩
  rintro k (hk | hk)
  · exact ⟨(hF k hk).1, by have := (hF k hk).2; have := p2.size; omega⟩
  · have := (hF gt fg).1; have := (hF gt fg).2; omega
theorem up_last (s : List Trow) (lb : Int) (m : List Nat) : upT (s ++ [(lb, m, 0)]) s.length = s ++ [(lb, m, 1)] := by
  apply List.ext_getElem?
  intro j
  rw [upT_get]
  by_cases h : j < s.length
  · rw [List.getElem?_append_left h, List.getElem?_append_left h, List.getElem?_eq_getElem h]
    have : ¬ j = s.length := by omega
    simp [this]
  · rw [List.getElem?_append_right (by omega), List.getElem?_append_right (by omega)]
    by_cases e : j = s.length
    · subst e; simp
    · rw [List.getElem?_eq_none (by simp; omega), List.getElem?_eq_none (by simp; omega)]; rfl
/-- the new row's count is one. -/
theorem ta_fin {w6 : World} {F' : Nat → Prop} {b c' : Nat} {lb : Int} {m : List Nat} (p1 : Rws w6 B 96 (two gt bm) (some ⟨b, 0, none⟩) c' (s ++ [(lb, m, 0)]) F') (p3 : Blk w6 gt 132 [.map (some bm), .slice (some ⟨b, 0, none⟩) (s.length + 1) c'])
    (hm : mapK w6 bm (s.length + 1) (updK (idxT s) lb m s.length)) (p5 : Foot F' B w6) (fg : F' gt) (fb : F' bm) (ne : gt ≠ bm) (ok : OkT (s ++ [(lb, m, 1)])) (hx : idxT s lb m = none) (hbF : ¬ two gt bm b) :
    Ta (w6.setCell ⟨b, s.length * 3 + 2, none⟩ (.int .u64 1)) B gt (s ++ [(lb, m, 1)]) F' ∧ Turn F' F' w6 (w6.setCell ⟨b, s.length * 3 + 2, none⟩ (.int .u64 1)) := by
  obtain ⟨u1, u2⟩ := p1.up (i := s.length) (r := (lb, m, 0)) (by simp) rfl
  rw [up_last] at u1
  have hfar : ∀ k, k ≠ b → (w6.setCell ⟨b, s.length * 3 + 2, none⟩ (.int .u64 1)).heap[k]? = w6.heap[k]? := fun k hk => Below.heap_setCell w6 ⟨b, s.length * 3 + 2, none⟩ _ k hk
  have hlen : (s ++ [(lb, m, 1)]).length = s.length + 1 := by simp
  refine ⟨⟨bm, some ⟨b, 0, none⟩, c', ⟨p5.on u2.size, fg, fb, ne, ?_, u1, ?_, ok⟩⟩, u2⟩
  · rw [hlen]; exact p3.kept (hfar gt (fun e => hbF (.inl e.symm)))
  · rw [hlen, idx_push s lb m 1 hx]; exact mapK_same hm (hfar bm (fun e => hbF (.inr e.symm)))
set_option maxRecDepth 100000 in
set_option maxHeartbeats 8000000 in
theorem ta_add_none (h : TaAt w B gt bm V cV s F) (hT : tot s ≤ 1000000) (lb : Int) (hl : Fit lb) (A : Option Addr) (c : Nat) (m : List Nat) (hA : Rd w.heap.size w A (u8s m)) (hm : Byt m) (hml : m.length ≤ 1000000) (hx : idxT s lb m = none) :
    Calls Try.prog 47 #[.pointer (some ⟨gt, 0, none⟩), .int .i64 lb, .slice A m.length c] w (AddR w B gt s F lb m) := by
  obtain ⟨i0, hi, hz0, hz1, hz2⟩ := info_parts Try.infR
  have HI := hide (ta_is ⟨_, _, _, h⟩)
  have e1 : addT s lb m = s ++ [(lb, m, 1)] := by unfold addT; rw [hx]
  have e2 := cnt_add_none hx
  unfold AddR
  rw [e2, e1]
  have hlen : s.length ≤ 1000000 := Nat.le_trans h.ok.len hT
  have hcv := run_text0 (P := Try.prog) (c := c) (src := 34) (dst := 9) Try.underlying34 Try.underlying5 Try.underlying9 hA
  obtain ⟨w1, hw1⟩ : ∃ w1, w1 = w.alloc (.cells #[.int .i64 lb, .string (strM m)] 134) := ⟨_, rfl⟩
  have hb1 : Below w.heap.size w w1 := by rw [hw1]; exact (Below.refl _ _).alloc (Nat.le_refl _) _
  have h1 := h.on hb1
  have hlk := mapK_get (w := w1.drew) h1.map hl hm (by omega)
  rw [hx] at hlk
  obtain ⟨w3, hrun, hm3, hg3⟩ := mapK_set (w := w1.drew.drew) h1.map hlen hl hm (by omega) s.length hlen
  unfold keyV at hlk hrun
  have HX1 : Hid (Blk w1 w.heap.size 134 [.int .i64 lb, .string (strM m)]) := by rw [hw1]; exact Blk.new w _ _
  have k0 := HX1.out.cell (i := 0) rfl
  have k1 := HX1.out.cell (i := 1) rfl
  have hbkne : w.heap.size ≠ bm := fun e => by have := (h.foot bm h.fb).2; omega
  have hx3 : Blk w3 w.heap.size 134 [.int .i64 lb, .string (strM m)] := (HX1.out.drew.drew).grown hg3 (fun e => hbkne (Option.some.inj e))
  have l0 := hx3.cell (i := 0) rfl
  have l1 := hx3.cell (i := 1) rfl
  obtain ⟨c0, c1⟩ := h1.cells
  have hb3 : Blk w3 gt 132 [.map (some bm), .slice V s.length cV] := (h1.blk.drew.drew).grown hg3 (fun e => h.ne (Option.some.inj e))
  have d0 := hb3.cell (i := 0) rfl
  have d1 := hb3.cell (i := 1) rfl
  have hr3 : Rws w3 B 96 (two gt bm) V cV s F := h1.rows.kept (fun k hk hn => hg3.block k (h1.foot k hk).2 (fun e => hn (.inr (Option.some.inj e)))) hg3.size
  have ht3 : Turn F F w w3 := (Turn.of_below hb1).drew.drew.trans (Turn.of_grown (F := F) (w := w1.drew.drew) hg3 (by intro k e; cases e; exact h.fb) (fun k hk => .inl hk))
  have hf3 : Foot F B w3 := h1.foot.on hg3.size
  have hA3 : Rd w3.heap.size w3 A (u8s m) := rd_map (w := w1.drew.drew) (hA.on hb1.drew.drew) h1.map hg3
  have HJ : Hid (Calls Try.prog 88 #[.slice (some ⟨w3.heap.size, 0, none⟩) 1 1] (w3.alloc (.cells #[.slice A m.length c] 34)).drew (NewT m (w3.alloc (.cells #[.slice A m.length c] 34)).drew)) := hide (join_one w3.drew A c m hA3 (by omega))
  obtain ⟨S, hS⟩ : ∃ S, S = strM m := ⟨_, rfl⟩
  rw [show strOfNums (m.map fun n : Nat => (n : Int)) = strM m from rfl] at hcv
  rw [← hS] at hcv hlk hrun hw1 k1 l1
  obtain ⟨L, hL, ho, hV3, h4⟩ := hr3
  have HPU := hide (fun (w4 w5 : World) (v : Value) (V' : Option Addr) (cV' : Nat) => rows_pushed (w := w3.drew) (w4 := w4) (w5 := w5) (v := v) (V' := V') (cV' := cV') (r := (lb, m, 0)) hf3 h.fg h.fb h.ne hb3 hL ho hV3 h4)
  have HO := hide (show w3.drew.ownsRow B 96 3 (.slice V s.length cV) s.length (rwsC L) from ho)
  have HB3 := hide (show Blk w3.drew gt 132 [.map (some bm), .slice V s.length cV] from hb3)
  have HNV : Hid (some gt ≠ (Value.slice V s.length cV).ownBlock) := fun e => (hV3 gt e.symm).2 (.inl rfl)
  have HM3 := hide hm3
  have HT3 := hide ht3
  have HOK := hide (h.ok.push hl hm hml)
  have HXX := hide hx
  have HFG := hide (And.intro h.fg (And.intro h.fb h.ne))
  have g1 : s.length + 1 ≤ 9223372036854775807 := by omega
  have g2 : (s.length + 1) * 40 ≤ 140737488355328 := by omega
  have HBB : Hid (B ≤ w3.drew.heap.size) := Nat.le_trans (h.foot gt h.fg).1 (Nat.le_of_lt (hf3 gt h.fg).2)
  have HW1 := hide hw1
  have ca : ∀ o : Obj, (w3.alloc o).cell? ⟨gt, 1, none⟩ = some (.slice V s.length cV) := fun o => (HB3.out.alloc o).cell (i := 1) rfl
  clear h h1 hx hA hm hml hl hw1 hb1 hL ho hV3 h4 hb3 hm3 ht3 hf3 hA3 hS hx3 hbkne e1 e2 hT hg3
  go_enter Try.func47, Try.ntmps47
  go_wp2_with fail
  refine HI.out.mono ?_; rintro e w' ⟨rfl, rfl⟩
  go_upto_region 4 with (fail)
  rw [← HW1.out]
  go_region_held3 (fun W => W.cell? ⟨gt, 0, none⟩ = some (.map (some bm)) ∧ W.cell? ⟨w.heap.size, 0, none⟩ = some (.int .i64 lb) ∧ W.cell? ⟨w.heap.size, 1, none⟩ = some (.string S)) (go_keep) (fail)
  clear hlk
  go_wp2
  go_region_held3 (fun W => W.cell? ⟨gt, 0, none⟩ = some (.map (some bm)) ∧ W.cell? ⟨w.heap.size, 0, none⟩ = some (.int .i64 lb) ∧ W.cell? ⟨w.heap.size, 1, none⟩ = some (.string S)) (first | exact ⟨d0, l0, l1⟩ | exact ⟨c0, k0, k1⟩ | go_keep) (fail)
  clear hrun
  go_wp2
  go_region_law (first
    | (refine step_app3 w4 (by rfl) (.tmp 43) (.tmp 49) 93 (by rfl) B 96 i0 (.agg #[.int .i64 0, .slice none 0 0, .int .u64 0]) 40 Try.underlying93 hi hz0 hz1 hz2 (by rfl) (.slice V s.length cV) s.length (rwsC L) (by rfl) (own_on HO.out hq1) (.int .i64 lb) (.slice A1 m.length c1) (.int .u64 0) (by rfl) (by rfl) (by rfl) (by rfl) g1 g2 (Nat.le_trans HBB.out hq1.size) ?_; intro v' w5 hown1 hg1 hat1; obtain ⟨A', c', rfl, _⟩ := own_form hown1; have hb5 := (HB3.out.on hq1).grown hg1 HNV.out; have f3 : w5.frozen? ⟨gt, 1, none⟩ = false := hb5.free 1; have e3 : w5.cell? ⟨gt, 1, none⟩ = some (.slice V s.length cV) := hb5.cell (i := 1) rfl)
    | (go_simp; go_at_call 88; (with_reducible refine HJ.out.mono ?_); rintro e w4 ⟨A1, c1, rfl, hq0, hqb⟩; have hq1 : Below w3.drew.heap.size w3.drew w4 := below2 (B := w3.drew.heap.size) (a := w3.drew) ((Below.refl w3.drew.heap.size w3.drew).alloc (Nat.le_refl _) (.cells #[.slice A m.length c] 34)) hqb (Nat.le_refl _); have d2 : w4.cell? ⟨gt, 1, none⟩ = some (.slice V s.length cV) := (HB3.out.on hq1).cell (i := 1) rfl; have d2a : ∀ o : Obj, (w4.alloc o).cell? ⟨gt, 1, none⟩ = some (.slice V s.length cV) := fun o => ((HB3.out.on hq1).alloc o).cell (i := 1) rfl))
  all_goals
    obtain ⟨p1, p2, p3, p4, p5⟩ := HPU.out w4 w5 (.slice A1 m.length c1) A' c' hq1 (own_down hq0 (by show w3.heap.size ≤ _; simp)) hown1 hg1 hat1
    obtain ⟨w6, hw6⟩ : ∃ w6, w6 = w5.setCell ⟨gt, 1, none⟩ (.slice A' (s.length + 1) c') := ⟨_, rfl⟩
    rw [← hw6] at p1 p2 p3 p4 p5
    rw [← hw6]
    obtain ⟨b, D, cD, rfl, _, hbF, q0, q1, q2, fz, _⟩ := p1.get (i := s.length) (r := (lb, m, 0)) (by simp)
    have x1 := p3.cell (i := 1) rfl
    have HFN := hide (ta_fin p1 p3 (mapK_same HM3.out p4) p5 (.inl HFG.out.1) (.inl HFG.out.2.1) HFG.out.2.2 HOK.out HXX.out hbF.2)
    have HT6 := hide (HT3.out.drew.trans p2)
    have g3 : (0 : Int) ≤ (s.length : Int) := by omega
    have hgb : b ≠ gt := fun e => hbF.2 (.inl e)
    dsimp only at q2 fz
    clear p1 p2 p3 p4 p5 hw6 q0 q1 hbF hown1 hg1 hat1 hb5 f3 e3 hq0 hqb hq1 d2 d2a ca HPU HJ HO HB3 HNV HM3 HT3 HOK HXX HFG HBB HX1 k0 k1 l0 l1 c0 d0 d1 hi hz0 hz1 hz2 hcv HI HW1 g1 g2
    go_wp2
    go_ret
    first | exact ⟨rfl, _, HFN.out.1, HT6.out.trans HFN.out.2⟩ | exact ⟨_, rfl, HFN.out.1, HT6.out.trans HFN.out.2⟩
/-- Add, in short. -/
theorem ta_add (h : Ta w B gt s F) (hT : tot s ≤ 1000000) (lb : Int) (hl : Fit lb) (A : Option Addr) (c : Nat) (m : List Nat) (hA : Rd w.heap.size w A (u8s m)) (hm : Byt m) (hml : m.length ≤ 1000000) :
    Calls Try.prog 47 #[.pointer (some ⟨gt, 0, none⟩), .int .i64 lb, .slice A m.length c] w (AddR w B gt s F lb m) := by
  obtain ⟨bm, V, cV, h⟩ := h
  cases hx : idxT s lb m with
  | none => exact ta_add_none h hT lb hl A c m hA hm hml hx
  | some i => exact ta_add_some h hT lb hl A c m hA hm hml hx
end
end Go.Proofs.Ytnbhgeodbpelgaa
