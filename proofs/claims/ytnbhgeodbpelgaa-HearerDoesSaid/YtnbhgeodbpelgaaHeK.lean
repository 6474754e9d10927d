/- Layer 21's reference hearer: enter, all ways; what stands behind Take's switch. No conditions. -/
import Derived.Test.YtnbhgeodbpelgaaHeJ
import Derived.StillTailTactics
namespace Go.Proofs.Ytnbhgeodbpelgaa
open Go.RowKit
set_option linter.unusedVariables false
attribute [local go_sem ↓] Go.wp_at_zero Go.wp_at_succ

section
variable {w w' : World} {B gx gq gl gt room : Nat} {s : Hst} {F : Nat → Prop} {Fs : Nat → Nat → Prop}
theorem rhe_enter (h : RHeAt w B gx gq gl gt room s F Fs) (hd : s.ent ≤ 1000000) (hT : tot s.t ≤ 1000000) : Calls Try.prog 84 #[.pointer (some ⟨gx, 0, none⟩)] w (REnterR w B gx gq gl room (enterS room s) F) := by
  unfold enterS
  by_cases hf : room - s.q.length = 0
  · rw [if_pos hf]; exact rhe_enter_not h hd hT (.inl hf)
  rw [if_neg hf]
  by_cases hz : (bestH s).2 = 0
  · rw [if_pos hz]; exact rhe_enter_not h hd hT (.inr (.inl hz))
  rw [if_neg hz]
  by_cases hen : s.led.enough ((bestH s).2 : Nat) = false
  · rw [if_pos hen]; exact rhe_enter_not h hd hT (.inr (.inr hen))
  rw [if_neg hen]
  have hen2 : s.led.enough ((bestH s).2 : Nat) = true := by simpa using hen
  by_cases hp : pushE room s.q (bestH s).1 ≠ 0
  · rw [if_pos hp]
    refine rhe_enter_long h hd hT hf hz hen2 ?_
    unfold pushE at hp
    by_cases h64 : 64 < (bestH s).1.length
    · exact h64
    · rw [if_neg h64, if_neg (by omega)] at hp; exact absurd rfl hp
  · rw [if_neg hp]
    exact rhe_enter_in h hd hT hf hz hen2 (by omega)
end
/-- the place behind the switch: what is told of the world there. -/
structure RHere (w wx : World) (B gx gq gl gt room : Nat) (s : Hst) (F0 F : Nat → Prop) (Fs : Nat → Nat → Prop) (k lb : Int) (u : Value) : Prop where
  m : RHeAt wx B gx gq gl gt room s F Fs
  x : Blk wx w.heap.size 36 [.int .i64 k, .int .i64 lb, u]
  tu : Turn F0 F w wx
  n : ¬ F w.heap.size
section
variable {w wx w' : World} {B gx gq gl gt room : Nat} {s : Hst} {F F0 : Nat → Prop} {Fs : Nat → Nat → Prop} {k lb lb' : Int} {u : Value}
theorem RHeAt.rhere (h : RHeAt w B gx gq gl gt room s F Fs) (k lb : Int) (u : Value) : RHere w (w.alloc (.cells #[.int .i64 k, .int .i64 lb, u] 36)) B gx gq gl gt room s F F Fs k lb u := by
  have hb : Below w.heap.size w (w.alloc (.cells #[.int .i64 k, .int .i64 lb, u] 36)) := (Below.refl _ _).alloc (Nat.le_refl _) _
  exact ⟨h.on hb, Blk.new w _ _, Turn.of_below hb, fun hf => by have := (h.ob.foot _ hf).2; omega⟩
theorem RHere.drew (h : RHere w wx B gx gq gl gt room s F0 F Fs k lb u) : RHere w wx.drew B gx gq gl gt room s F0 F Fs k lb u := ⟨h.m.on (Below.refl _ _).drew, h.x.drew, h.tu.drew, h.n⟩
theorem RHere.ne (h : RHere w wx B gx gq gl gt room s F0 F Fs k lb u) : w.heap.size ≠ gl := fun e => h.n (by rw [e]; exact (h.m.ob.sub 1 (by omega) gl h.m.lf).1)
theorem RHere.label (h : RHere w wx B gx gq gl gt room s F0 F Fs k lb u) (lb' : Int) : RHere w (wx.setCell ⟨w.heap.size, 1, none⟩ (.int .i64 lb')) B gx gq gl gt room s F0 F Fs k lb' u := by
  have hfar : ∀ j, j ≠ w.heap.size → (wx.setCell ⟨w.heap.size, 1, none⟩ (.int .i64 lb')).heap[j]? = wx.heap[j]? := fun j hj => Below.heap_setCell wx ⟨w.heap.size, 1, none⟩ _ j hj
  have hs : (wx.setCell ⟨w.heap.size, 1, none⟩ (.int .i64 lb')).heap.size = wx.heap.size := by simp [World.setCell]
  refine ⟨h.m.kept (fun j hj => hfar j (fun e => h.n (by rw [← e]; exact hj))) (by omega), h.x.set 1 _, ⟨h.tu.os, h.tu.tape, h.tu.output, by rw [hs]; exact h.tu.size, fun j hj hn => (hfar j (by omega)).trans (h.tu.block j hj hn), h.tu.new⟩, h.n⟩
/-- .. behind Hear. -/
theorem RHere.hear {w4 : World} (h : RHere w wx B gx gq gl gt room s F0 F Fs k lb u) (hl : RLedAt w4 gl s.led.hear) (hg : wx.grownBy w4 (some gl)) : ∃ F2 Fs2, RHere w w4 B gx gq gl gt room (heardH s) F0 F2 Fs2 k lb u := by
  obtain ⟨F2, Fs2, h2, t2⟩ := h.m.led hl hg (Led.ok_hear h.m.ok)
  exact ⟨F2, Fs2, h2, h.x.kept (hg.block _ h.x.lt (fun e => h.ne (Option.some.inj e))), h.tu.trans t2, fun hf => (t2.new _ hf).elim h.n (fun h3 => by have := h.x.lt; omega)⟩
theorem RHere.cells (h : RHere w wx B gx gq gl gt room s F0 F Fs k lb u) : (wx.cell? ⟨gx, 1, none⟩ = some (.pointer (some ⟨gl, 0, none⟩)) ∧ wx.cell? ⟨gx, 2, none⟩ = some (.pointer (some ⟨gt, 0, none⟩))) ∧ wx.cell? ⟨w.heap.size, 1, none⟩ = some (.int .i64 lb) ∧ wx.cell? ⟨w.heap.size, 2, none⟩ = some u :=
  ⟨⟨h.m.cells.2.1, h.m.cells.2.2.1⟩, h.x.cell (i := 1) rfl, h.x.cell (i := 2) rfl⟩
end
end Go.Proofs.Ytnbhgeodbpelgaa
