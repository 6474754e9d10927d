/- Layer 20's caller: answer, acked, Take, State. No conditions. -/
import Derived.Test.YtnbhgeodbpelgaaCalC
import Derived.Deep.CutBlock
namespace Go.Proofs.Ytnbhgeodbpelgaa
open Go.RowKit
set_option linter.unusedVariables false
attribute [local go_sem ↓] Go.wp_at_zero Go.wp_at_succ

section
variable {w w' : World} {B gx gq gl room : Nat} {s : Cst} {F : Nat → Prop} {Fs : Nat → Nat → Prop}
/-- what a question is answered. -/
def ansP (s : Cst) : Prb := if s.q.length = 0 then (2, 0, []) else (3, ((s.don % 2 : Nat) : Int), s.q.headD [])
def AnsR (s : Cst) (w : World) (e : Ending) (w' : World) : Prop :=
  ∃ D c, e = .returned (.agg #[.int .i64 (ansP s).1, .int .i64 (ansP s).2.1, .slice D (ansP s).2.2.length c]) ∧ Rd w'.heap.size w' D (u8s (ansP s).2.2) ∧ (∀ b o s, D = some ⟨b, o, s⟩ → w.heap.size ≤ b) ∧ Below w.heap.size w w'
theorem cl_answer (h : ClAt w B gx gq gl room s F Fs) (hd : s.don ≤ 1000000) : Calls Try.prog 69 #[.pointer (some ⟨gx, 0, none⟩)] w (AnsR s w) := by
  have HW := hide (fun o => h.on ((Below.refl w.heap.size w).alloc (Nat.le_refl _) o))
  have hxlt : gx < w.heap.size := h.ob.blk.lt
  have k0 : ∀ o : Obj, (w.alloc o).cell? ⟨gx, 0, none⟩ = some (.pointer (some ⟨gq, 0, none⟩)) := fun o => (HW.out o).cells.1
  have HFR := hide (fun o => que_front (HW.out o).q)
  have HX := hide (Blk.new w 36 [.int .i64 0, .int .i64 0, .slice none 0 0])
  have HBA := hide (fun o => (Below.refl w.heap.size w).alloc (Nat.le_refl _) o)
  unfold AnsR
  clear h
  cases hq : s.q with
  | nil =>
    have e1 : ansP s = (2, 0, []) := by unfold ansP; rw [hq]; rfl
    rw [e1]
    rw [hq] at HFR
    go_enter Try.func69, Try.ntmps69
    go_wp2_with fail
    refine (HFR.out _).mono ?_; rintro e w1 ⟨A, c, rfl, ho, hb⟩
    have hx := HX.out.on hb
    have x0 := hx.cell (i := 0) rfl
    have x1 := hx.cell (i := 1) rfl
    have x2 := hx.cell (i := 2) rfl
    have f0 := hx.free 0
    have f1 := hx.free 1
    have f2 := hx.free 2
    have hx3 := ((hx.set 0 (.int .i64 2)).set 1 (.int .i64 0)).set 2 (.slice none 0 0)
    have y0 := hx3.cell (i := 0) (v := .int .i64 2) rfl
    have y1 := hx3.cell (i := 1) (v := .int .i64 0) rfl
    have y2 := hx3.cell (i := 2) (v := .slice none 0 0) rfl
    have HB1 := hide (below2 (HBA.out _) hb (by simp))
    clear ho hb hx hx3 HFR
    go_wp2
    (try simp only [Exit.inBlock, Exit.then])
    refine bodyPost_ret (v := .agg #[.int .i64 2, .int .i64 0, .slice none 0 0]) (by simp [results, Try.results69, go_sem, y0, y1, y2]) rfl ?_
    exact ⟨none, 0, rfl, Rd.nil _ _ _, (fun _ _ _ e => by cases e), ((HB1.out.setCell (p := ⟨w.heap.size, 0, none⟩) (Nat.le_refl _) _).setCell (p := ⟨w.heap.size, 1, none⟩) (Nat.le_refl _) _).setCell (p := ⟨w.heap.size, 2, none⟩) (Nat.le_refl _) _⟩
  | cons m ms =>
    have e1 : ansP s = (3, ((s.don % 2 : Nat) : Int), m) := by unfold ansP; rw [hq]; rfl
    obtain ⟨lb, hlb⟩ : ∃ lb : Int, lb = ((s.don % 2 : Nat) : Int) := ⟨_, rfl⟩
    rw [← hlb] at e1
    rw [e1]
    rw [hq] at HFR
    go_enter Try.func69, Try.ntmps69
    go_wp2_with fail
    refine (HFR.out _).mono ?_; rintro e w1 ⟨A, c, rfl, ho, hb⟩
    have hx := HX.out.on hb
    have x0 := hx.cell (i := 0) rfl
    have x1 := hx.cell (i := 1) rfl
    have x2 := hx.cell (i := 2) rfl
    have f0 := hx.free 0
    have f1 := hx.free 1
    have f2 := hx.free 2
    have hx3 := ((hx.set 0 (.int .i64 3)).set 1 (.int .i64 lb)).set 2 (.slice A m.length c)
    have y0 := hx3.cell (i := 0) (v := .int .i64 3) rfl
    have y1 := hx3.cell (i := 1) (v := .int .i64 lb) rfl
    have y2 := hx3.cell (i := 2) (v := .slice A m.length c) rfl
    have HB1 := hide (below2 (HBA.out _) hb (by simp))
    have HL1 := hide (cl_label ((HW.out _).on hb) hd)
    rw [← hlb] at HL1
    clear hlb
    have HO := hide ho
    clear ho hb hx hx3 HFR
    go_wp2_with fail
    refine HL1.out.mono ?_; rintro e w' ⟨rfl, rfl⟩
    go_wp2
    (try simp only [Exit.inBlock, Exit.then])
    refine bodyPost_ret (v := .agg #[.int .i64 3, .int .i64 lb, .slice A m.length c]) (by simp [results, Try.results69, go_sem, y0, y1, y2]) rfl ?_
    have hb3 := ((HB1.out.setCell (p := ⟨w.heap.size, 0, none⟩) (Nat.le_refl _) (.int .i64 3)).setCell (p := ⟨w.heap.size, 1, none⟩) (Nat.le_refl _) (.int .i64 lb)).setCell (p := ⟨w.heap.size, 2, none⟩) (Nat.le_refl _) (.slice A m.length c)
    refine ⟨A, c, rfl, ?_, fun b o s e => ?_, hb3⟩
    · have hlt : w.heap.size < (w.alloc (.cells #[.int .i64 0, .int .i64 0, .slice none 0 0] 36)).heap.size := by simp
      have h2 := own_keep HO.out (w' := ((w1.setCell ⟨w.heap.size, 0, none⟩ (.int .i64 3)).setCell ⟨w.heap.size, 1, none⟩ (.int .i64 lb)).setCell ⟨w.heap.size, 2, none⟩ (.slice A m.length c)) (fun k hk => by
        have := (own_block_lt HO.out hk).1
        have hne : k ≠ w.heap.size := by omega
        exact (Below.heap_setCell _ ⟨w.heap.size, 2, none⟩ _ k hne).trans ((Below.heap_setCell _ ⟨w.heap.size, 1, none⟩ _ k hne).trans (Below.heap_setCell _ ⟨w.heap.size, 0, none⟩ _ k hne)))
      exact own_rd h2
    · have := (own_block_lt HO.out (k := b) (by rw [e]; rfl)).1
      have hlt : (w.alloc (.cells #[.int .i64 0, .int .i64 0, .slice none 0 0] 36)).heap.size = w.heap.size + 1 := by simp
      omega
end
end Go.Proofs.Ytnbhgeodbpelgaa
