/- What layer 40's laws are told of acts that came in, with the messages' capacities. No conditions. -/
import Derived.Test.YtfcappddncnglaaInM
namespace Go.Proofs.Ytfcappddncnglaa
open Go.ChangeShapes Go.WideShapes Go.ChangeAt Go.RowKit Go.Deep
set_option linter.unusedVariables false

def Cap (u : Value) (m : List Nat) : Prop := ∀ a c, u = .slice a m.length c → m.length ≤ c
structure InA40c (w : World) (a : Option Addr) (c : Nat) (l : List (Int × Int × List Nat)) : Prop where
  base : InA40 w a c l
  caps : ∀ (k : Nat) d p m, l[k]? = some (d, p, m) → ∀ b o A c, a = some ⟨b, o, none⟩ → w.cell? ⟨b, o + k * 3 + 2, none⟩ = some (.slice A m.length c) → m.length ≤ c
section
variable {H : Type} {enc : TypeId × Value → H} {P : Program} {w : World} {base : Nat} {spare : Nat → Bool} {held : Bool}
theorem field_bytesC {t e : TypeId} {fuel : Nat} {cs : List Value} {x : DataW H × List MemPlace} (ht : P.underlying t = some (.slice e)) (he : P.underlying e = some (.int .u8)) (hc : P.cellsOf e = 1)
    (h : DataW.trod enc P w base spare held fuel t cs = some x) : ∃ u m, cs = [u] ∧ FB w u m ∧ Cap u m := by
  obtain ⟨u, m, hu, hm⟩ := field_bytes ht he hc h
  refine ⟨u, m, hu, hm, fun a c e => ?_⟩
  subst hu e
  obtain ⟨l, h1, hcap, _⟩ := open_row ht he hc h
  omega
end
section
variable {H : Type} {enc : TypeId × Value → H} {w : World} {base : Nat} {spare : Nat → Bool} {held : Bool}
theorem open_act40c {a : Option Addr} {len cap : Nat} {d : DataW H} {p : List MemPlace} (h : DataW.Trod enc Try.prog w base spare held 52 (.slice a len cap) d p) : ∃ l, len = l.length ∧ InA40c w a cap l := by
  obtain ⟨fuel, hf⟩ := h
  obtain ⟨L, rfl, hcap, hmax, hQ, hrd⟩ := open_rows (sz := 3) (Q := fun cs => ∃ (a : Int × Int × List Nat) (u : Value), cs = [.int .i64 a.1, .int .i64 a.2.1, u] ∧ FB w u a.2.2 ∧ Fit a.1 ∧ Fit a.2.1 ∧ Cap u a.2.2) Try.underlying52 (by kernel_rfl) (by omega) (by simpa [Value.cells] using hf) (fun n cs y hy => by
    obtain ⟨y0, y1, y2, n, _, hl, h0, h1, h2⟩ := trod_struct3 Try.underlying59 hy
    have hl2 : cs.length = 3 := hl.trans (by kernel_rfl)
    obtain ⟨c0, c1, c2, rfl⟩ := three_of hl2
    obtain ⟨d, hd, fd⟩ := field_int Try.underlying3 h0
    obtain ⟨p, hp, fp⟩ := field_int Try.underlying3 h1
    obtain ⟨u, m, hu, hm, hcp⟩ := field_bytesC Try.underlying33 Try.underlying5 (by kernel_rfl) h2
    have z0 : Try.prog.cellsOf 3 = 1 := by kernel_rfl
    have z1 : Try.prog.cellsOf 33 = 1 := by kernel_rfl
    have e0 : c0 = Value.int .i64 d := by simpa [z0] using hd
    have e1 : c1 = Value.int .i64 p := by simpa [z0] using hp
    have e2 : c2 = u := by simpa [z1] using hu
    exact ⟨(d, p, m), u, by rw [e0, e1, e2], hm, fd, fp, hcp⟩)
  obtain ⟨M, hM, hR⟩ := choose_list L hQ
  refine ⟨M, hM.symm, ⟨fun k d p m hk => ?_, by omega, hmax⟩, fun k d p m hk => ?_⟩
  all_goals
    have hkL : k < L.length := by rw [← hM]; exact (List.getElem?_eq_some_iff.1 hk).1
    obtain ⟨y, hy, u, hcs, hm, fd, fp, hcp⟩ := hR k _ (List.getElem?_eq_getElem hkL)
    have e : y = (d, p, m) := Option.some.inj (hy.symm.trans hk)
    subst e
    obtain ⟨b, o, ha, hb, hc⟩ := hrd (by omega)
  · refine ⟨b, o, u, ha, hb, ?_, ?_, ?_, hm, fd, fp⟩
    · exact hc k _ 0 _ (List.getElem?_eq_getElem hkL) (by rw [hcs]; rfl)
    · exact hc k _ 1 _ (List.getElem?_eq_getElem hkL) (by rw [hcs]; rfl)
    · exact hc k _ 2 _ (List.getElem?_eq_getElem hkL) (by rw [hcs]; rfl)
  · intro b' o' A c ha' hcell
    rw [ha] at ha'
    injection ha' with ha'
    injection ha' with e1 e2
    subst e1 e2
    have := hc k _ 2 _ (List.getElem?_eq_getElem hkL) (by rw [hcs]; rfl)
    exact hcp A c (Option.some.inj (this.symm.trans hcell))
end
end Go.Proofs.Ytfcappddncnglaa
