/- What layer 19's laws are told of acts that came in. No conditions. -/
import Derived.Test.YtfcappddncnglaaInN
namespace Go.Proofs.Ytfcappddncnglaa
open Go.ChangeShapes Go.WideShapes Go.ChangeAt Go.RowKit Go.Deep
set_option linter.unusedVariables false

theorem FB.on {w w' : World} {u : Value} {m : List Nat} (h : FB w u m) (hb : Below w.heap.size w w') : FB w' u m := by
  obtain ⟨a, c, rfl, hr, h2⟩ := h
  exact ⟨a, c, rfl, hr.on hb, h2⟩
theorem two_of {cs : List Value} (h : cs.length = 2) : ∃ a b, cs = [a, b] := by
  match cs, h with
  | [a, b], _ => exact ⟨a, b, rfl⟩
/-- acts of layer 19. -/
structure InA19 (w : World) (a : Option Addr) (c : Nat) (l : List (Bool × List Nat)) : Prop where
  rd : ∀ (k : Nat) p m, l[k]? = some (p, m) → ∃ b o u, a = some ⟨b, o, none⟩ ∧ b < w.heap.size ∧ w.cell? ⟨b, o + k * 2, none⟩ = some (.bool p) ∧ w.cell? ⟨b, o + k * 2 + 1, none⟩ = some u ∧ FB w u m
  cap : l.length ≤ c
  max : c ≤ 9223372036854775807
theorem InA19.on {w w' : World} {a : Option Addr} {c : Nat} {l : List (Bool × List Nat)} (h : InA19 w a c l) (hb : Below w.heap.size w w') : InA19 w' a c l :=
  ⟨fun k p m hk => by
    obtain ⟨b, o, u, ha, hl, h1, h2, h3⟩ := h.rd k p m hk
    exact ⟨b, o, u, ha, Nat.lt_of_lt_of_le hl hb.size, (hb.cell hl).trans h1, (hb.cell hl).trans h2, h3.on hb⟩, h.cap, h.max⟩
section
variable {H : Type} {enc : TypeId × Value → H} {w : World} {base : Nat} {spare : Nat → Bool} {held : Bool}
theorem open_act19 {a : Option Addr} {len cap : Nat} {d : DataW H} {p : List MemPlace} (h : DataW.Trod enc Try.prog w base spare held 22 (.slice a len cap) d p) : ∃ l, len = l.length ∧ InA19 w a cap l := by
  obtain ⟨fuel, hf⟩ := h
  obtain ⟨L, rfl, hcap, hmax, hQ, hrd⟩ := open_rows (sz := 2) (Q := fun cs => ∃ (a : Bool × List Nat) (u : Value), cs = [.bool a.1, u] ∧ FB w u a.2) Try.underlying22 (by kernel_rfl) (by omega) (by simpa [Value.cells] using hf) (fun n cs y hy => by
    obtain ⟨y0, y1, n, _, hl, h0, h1⟩ := trod_struct2 Try.underlying35 hy
    have hl2 : cs.length = 2 := hl.trans (by kernel_rfl)
    obtain ⟨c0, c1, rfl⟩ := two_of hl2
    obtain ⟨p, hp⟩ := field_bool Try.underlying4 h0
    obtain ⟨u, m, hu, hm⟩ := field_bytes Try.underlying33 Try.underlying5 (by kernel_rfl) h1
    have z0 : Try.prog.cellsOf 4 = 1 := by kernel_rfl
    have z1 : Try.prog.cellsOf 33 = 1 := by kernel_rfl
    have e0 : c0 = Value.bool p := by simpa [z0] using hp
    have e1 : c1 = u := by simpa [z1] using hu
    exact ⟨(p, m), u, by rw [e0, e1], hm⟩)
  obtain ⟨M, hM, hR⟩ := choose_list L hQ
  refine ⟨M, hM.symm, ⟨fun k p m hk => ?_, by omega, hmax⟩⟩
  have hkL : k < L.length := by rw [← hM]; exact (List.getElem?_eq_some_iff.1 hk).1
  obtain ⟨y, hy, u, hcs, hm⟩ := hR k _ (List.getElem?_eq_getElem hkL)
  have e : y = (p, m) := Option.some.inj (hy.symm.trans hk)
  subst e
  obtain ⟨b, o, ha, hb, hc⟩ := hrd (by omega)
  refine ⟨b, o, u, ha, hb, ?_, ?_, hm⟩
  · exact hc k _ 0 _ (List.getElem?_eq_getElem hkL) (by rw [hcs]; rfl)
  · exact hc k _ 1 _ (List.getElem?_eq_getElem hkL) (by rw [hcs]; rfl)
end
end Go.Proofs.Ytfcappddncnglaa
