/- Layer 18's tally, by what it does in memory: New, is, Clear, Count. No conditions. -/
import Derived.Test.YtnbhgeodbpelgaaTalC
import Derived.Test.YtnbhgeodbpelgaaTxJ
import Derived.Deep.RegionHeld3
import Derived.Deep.DrawnRows
import Derived.Deep.RegionLaw
import Derived.Laws.Cover3
namespace Go.Proofs.Ytnbhgeodbpelgaa
open Go.RowKit Go.Maps
set_option linter.unusedVariables false
attribute [local go_sem ↓] Go.wp_at_zero Go.wp_at_succ

def two (a b : Nat) (k : Nat) : Prop := k = a ∨ k = b
structure TaAt (w : World) (B gt bm : Nat) (V : Option Addr) (cV : Nat) (s : List Trow) (F : Nat → Prop) : Prop where
  foot : Foot F B w
  fg : F gt
  fb : F bm
  ne : gt ≠ bm
  blk : Blk w gt 132 [.map (some bm), .slice V s.length cV]
  rows : Rws w B 96 (two gt bm) V cV s F
  map : mapK w bm s.length (idxT s)
  ok : OkT s
def Ta (w : World) (B gt : Nat) (s : List Trow) (F : Nat → Prop) : Prop := ∃ bm V cV, TaAt w B gt bm V cV s F
section
variable {w w' : World} {B gt bm cV : Nat} {V : Option Addr} {s : List Trow} {F : Nat → Prop}
theorem TaAt.kept (h : TaAt w B gt bm V cV s F) (hk : ∀ k, F k → w'.heap[k]? = w.heap[k]?) (hs : w.heap.size ≤ w'.heap.size) : TaAt w' B gt bm V cV s F :=
  ⟨h.foot.on hs, h.fg, h.fb, h.ne, h.blk.kept (hk gt h.fg), h.rows.kept (fun k hf _ => hk k hf) hs, mapK_same h.map (hk bm h.fb), h.ok⟩
theorem Ta.kept (h : Ta w B gt s F) (hk : ∀ k, F k → w'.heap[k]? = w.heap[k]?) (hs : w.heap.size ≤ w'.heap.size) : Ta w' B gt s F := by
  obtain ⟨bm, V, cV, h⟩ := h
  exact ⟨bm, V, cV, h.kept hk hs⟩
theorem Ta.foot (h : Ta w B gt s F) : Foot F B w := by obtain ⟨_, _, _, h⟩ := h; exact h.foot
theorem TaAt.on (h : TaAt w B gt bm V cV s F) (hb : Below w.heap.size w w') : TaAt w' B gt bm V cV s F := h.kept (below_kept hb h.foot) hb.size
theorem Ta.on (h : Ta w B gt s F) (hb : Below w.heap.size w w') : Ta w' B gt s F := h.kept (below_kept hb h.foot) hb.size
theorem Ta.ok (h : Ta w B gt s F) : OkT s := by obtain ⟨_, _, _, h⟩ := h; exact h.ok
theorem TaAt.cells (h : TaAt w B gt bm V cV s F) : w.cell? ⟨gt, 0, none⟩ = some (.map (some bm)) ∧ w.cell? ⟨gt, 1, none⟩ = some (.slice V s.length cV) := ⟨h.blk.cell (i := 0) rfl, h.blk.cell (i := 1) rfl⟩
end
theorem ta_new (w : World) : Calls Try.prog 45 #[] w fun e w' => ∃ gt F, e = .returned (.pointer (some ⟨gt, 0, none⟩)) ∧ Ta w' w.heap.size gt [] F ∧ Below w.heap.size w w' := by
  have hmm := @run_makeMap Try.prog
  go_enter Try.func45, Try.ntmps45
  go_wp2
  go_ret
  have hb1 : Below w.heap.size w (w.alloc (.map #[] 0)) := (Below.refl _ _).alloc (Nat.le_refl _) _
  have hs1 : (w.alloc (.map #[] 0)).heap.size = w.heap.size + 1 := by simp
  have hb2 := (Below.refl (w.alloc (.map #[] 0)).heap.size (w.alloc (.map #[] 0))).alloc (Nat.le_refl _) (.cells #[.map (some w.heap.size), .slice none 0 0] 132)
  have hbk := Blk.new (w.alloc (.map #[] 0)) 132 [.map (some w.heap.size), .slice none 0 0]
  rw [hs1] at hbk
  have hs2 := hbk.lt
  refine ⟨w.heap.size + 1, two (w.heap.size + 1) w.heap.size, by first | rfl | simp, ⟨w.heap.size, none, 0, ⟨?_, .inl rfl, .inr rfl, by omega, hbk, Rws.nil _ _ _ _ _, ?_, ?_⟩⟩, below2 hb1 hb2 (by omega)⟩
  · rintro k (rfl | rfl)
    · exact ⟨by omega, hs2⟩
    · exact ⟨by omega, by omega⟩
  · exact mapK_same (f := fun _ _ => none) (mapK_new w) (hb2.block _ (by omega))
  · intro r hr; cases hr
section
variable {w w' : World} {B gt bm cV : Nat} {V : Option Addr} {s : List Trow} {F : Nat → Prop}
set_option maxRecDepth 100000 in
theorem ta_is (h : Ta w B gt s F) : Calls Try.prog 87 #[.pointer (some ⟨gt, 0, none⟩)] w fun e w' => e = .returned (.bool true) ∧ w = w' := by
  obtain ⟨bm, V, cV, h⟩ := h
  have c0 := h.cells.1
  have hq : ∀ (w : World) (r : Option Nat), (binOp .neq 130 (.map r) (.map none)).run Try.prog w = .ok (.bool (!r.isNone)) w := fun w r => run_neq_map_nil w _ _ _ r Try.underlying130
  clear h
  go_enter Try.func87, Try.ntmps87
  go_wp2
  go_ret
  exact ⟨rfl, rfl⟩
set_option maxRecDepth 100000 in
theorem ta_clear (h : Ta w B gt s F) : Calls Try.prog 46 #[.pointer (some ⟨gt, 0, none⟩)] w fun e w' => e = .returned (.tuple #[]) ∧ Ta w' B gt [] F ∧ Turn F F w w' := by
  have HI := hide (ta_is h)
  obtain ⟨bm, V, cV, h⟩ := h
  have c0 := h.cells.1
  obtain ⟨w1, hcl, hm1, hg1⟩ := mapK_clear h.map
  have hb1 : Blk w1 gt 132 [.map (some bm), .slice V s.length cV] := h.blk.grown hg1 (fun e => h.ne (Option.some.inj e))
  have d1 := hb1.cell (i := 1) rfl
  have f1 := hb1.free 1
  have HB1 := hide hb1
  have HM1 := hide hm1
  have HG1 := hide hg1
  have HH := hide h
  clear h hb1 hm1 hg1
  go_enter Try.func46, Try.ntmps46
  go_wp2_with fail
  refine HI.out.mono ?_; rintro e w' ⟨rfl, rfl⟩
  go_wp2
  go_returns
  have ht : Turn F F w w1 := Turn.of_grown HG1.out (by intro k e; cases e; exact HH.out.fb) (fun k hk => .inl hk)
  have hfar := Below.heap_setCell w1 ⟨gt, 1, none⟩ (.slice none 0 0) bm (fun e => HH.out.ne e.symm)
  refine ⟨rfl, ⟨bm, none, 0, ⟨(HH.out.foot.on ht.size).on (by simp [World.setCell]), HH.out.fg, HH.out.fb, HH.out.ne, HB1.out.set 1 (.slice none 0 0), Rws.nil _ _ _ _ _, mapK_same (f := fun _ _ => none) HM1.out hfar, (fun r hr => by cases hr)⟩⟩, ht.set HH.out.fg 1 _⟩
set_option maxRecDepth 100000 in
theorem ta_count (h : Ta w B gt s F) (hT : tot s ≤ 1000000) (lb : Int) (hl : Fit lb) (A : Option Addr) (c : Nat) (m : List Nat) (hA : Rd w.heap.size w A (u8s m)) (hm : Byt m) (hml : m.length ≤ 9223372036854775807) :
    Calls Try.prog 52 #[.pointer (some ⟨gt, 0, none⟩), .int .i64 lb, .slice A m.length c] w fun e w' => e = .returned (.int .u64 (cntT s lb m : Nat)) ∧ Below w.heap.size w w' := by
  have HI := hide (ta_is h)
  obtain ⟨bm, V, cV, h⟩ := h
  obtain ⟨c0, c1⟩ := h.cells
  have hcv := run_text0 (P := Try.prog) (c := c) (src := 34) (dst := 9) Try.underlying34 Try.underlying5 Try.underlying9 hA
  have HRD := hide hA
  have HR := hide h.rows
  have HMP := hide h.map
  obtain ⟨x, hx⟩ : ∃ x, x = idxT s lb m := ⟨_, rfl⟩
  have hlk : (Instr.lookup 130 (.map (some bm)) (.agg #[.int .i64 lb, .string (strOfNums (m.map fun n : Nat => (n : Int)))]) true).run Try.prog w.drew = .ok (.tuple #[.int .i64 ((x.getD 0 : Nat) : Int), .bool x.isSome]) w.drew := by rw [hx]; exact mapK_get (w := w.drew) h.map hl hm hml
  have hcv2 : (convert 34 9 (.slice A m.length c)).run Try.prog w.drew = .ok (.string (strOfNums (m.map fun n : Nat => (n : Int)))) w.drew := run_text0 (P := Try.prog) (c := c) Try.underlying34 Try.underlying5 Try.underlying9 (show Rd w.drew.heap.size w.drew A (u8s m) from hA)
  obtain ⟨S, hS⟩ : ∃ S, S = strOfNums (m.map fun n : Nat => (n : Int)) := ⟨_, rfl⟩
  rw [← hS] at hlk hcv hcv2
  have hlen : s.length ≤ 1000000 := Nat.le_trans h.ok.len hT
  cases x with
  | none =>
    have HC := hide (cnt_none hx.symm)
    clear h hx hS hA hm hml hl
    go_enter Try.func52, Try.ntmps52
    go_wp2_with fail
    refine HI.out.mono ?_; rintro e w' ⟨rfl, rfl⟩
    go_wp2
    go_region_held3 (fun W => W.cell? ⟨gt, 0, none⟩ = some (.map (some bm)) ∧ (convert 34 9 (.slice A m.length c)).run Try.prog W = .ok (.string S) W) (first | exact ⟨c0, hcv2⟩ | go_keep) (fail)
    go_wp2
    go_ret
    rw [HC.out]
    exact ⟨rfl, (Below.refl _ _).drew⟩
  | some i =>
    obtain ⟨cn, hcn⟩ := idx_some hx.symm
    have HC := hide (cnt_some hx.symm hcn)
    have hil := idx_lt hx.symm
    obtain ⟨b, D, cD, rfl, _, _, _, _, q2, _⟩ := h.rows.get hcn
    have g0 : (0 : Int) ≤ (i : Int) := by omega
    have g1 : (i : Int) < (s.length : Int) := by omega
    have hlk2 : (Instr.lookup 130 (.map (some bm)) (.agg #[.int .i64 lb, .string S]) true).run Try.prog w.drew = .ok (.tuple #[.int .i64 (i : Int), .bool true]) w.drew := hlk
    dsimp only at q2
    clear h hx hS hA hm hml hl hcn hlk hil
    go_enter Try.func52, Try.ntmps52
    go_wp2_with fail
    refine HI.out.mono ?_; rintro e w' ⟨rfl, rfl⟩
    go_wp2
    go_region_held3 (fun W => W.cell? ⟨gt, 0, none⟩ = some (.map (some bm)) ∧ (convert 34 9 (.slice A m.length c)).run Try.prog W = .ok (.string S) W) (first | exact ⟨c0, hcv2⟩ | go_keep) (fail)
    go_wp2
    go_ret
    rw [HC.out]
    exact ⟨rfl, (Below.refl _ _).drew⟩
end
end Go.Proofs.Ytnbhgeodbpelgaa
