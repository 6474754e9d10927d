/- What layer 40's laws are told of acts that came in; layer 40's huge. No conditions. -/
import Derived.Test.YtfcappddncnglaaInQ
namespace Go.Proofs.Ytfcappddncnglaa
open Go.ChangeShapes Go.WideShapes Go.ChangeAt Go.RowKit Go.Deep
set_option linter.unusedVariables false

theorem three_of {cs : List Value} (h : cs.length = 3) : ∃ a b c, cs = [a, b, c] := by
  match cs, h with
  | [a, b, c], _ => exact ⟨a, b, c, rfl⟩
/-- acts of layer 40: kind, port, message. -/
structure InA40 (w : World) (a : Option Addr) (c : Nat) (l : List (Int × Int × List Nat)) : Prop where
  rd : ∀ (k : Nat) d p m, l[k]? = some (d, p, m) → ∃ b o u, a = some ⟨b, o, none⟩ ∧ b < w.heap.size ∧ w.cell? ⟨b, o + k * 3, none⟩ = some (.int .i64 d) ∧ w.cell? ⟨b, o + k * 3 + 1, none⟩ = some (.int .i64 p) ∧ w.cell? ⟨b, o + k * 3 + 2, none⟩ = some u ∧ FB w u m ∧ Fit d ∧ Fit p
  cap : l.length ≤ c
  max : c ≤ 9223372036854775807
section
variable {H : Type} {enc : TypeId × Value → H} {w : World} {base : Nat} {spare : Nat → Bool} {held : Bool}
theorem open_act40 {a : Option Addr} {len cap : Nat} {d : DataW H} {p : List MemPlace} (h : DataW.Trod enc Try.prog w base spare held 52 (.slice a len cap) d p) : ∃ l, len = l.length ∧ InA40 w a cap l := by
  obtain ⟨fuel, hf⟩ := h
  obtain ⟨L, rfl, hcap, hmax, hQ, hrd⟩ := open_rows (sz := 3) (Q := fun cs => ∃ (a : Int × Int × List Nat) (u : Value), cs = [.int .i64 a.1, .int .i64 a.2.1, u] ∧ FB w u a.2.2 ∧ Fit a.1 ∧ Fit a.2.1) Try.underlying52 (by kernel_rfl) (by omega) (by simpa [Value.cells] using hf) (fun n cs y hy => by
    obtain ⟨y0, y1, y2, n, _, hl, h0, h1, h2⟩ := trod_struct3 Try.underlying59 hy
    have hl2 : cs.length = 3 := hl.trans (by kernel_rfl)
    obtain ⟨c0, c1, c2, rfl⟩ := three_of hl2
    obtain ⟨d, hd, fd⟩ := field_int Try.underlying3 h0
    obtain ⟨p, hp, fp⟩ := field_int Try.underlying3 h1
    obtain ⟨u, m, hu, hm⟩ := field_bytes Try.underlying33 Try.underlying5 (by kernel_rfl) h2
    have z0 : Try.prog.cellsOf 3 = 1 := by kernel_rfl
    have z1 : Try.prog.cellsOf 33 = 1 := by kernel_rfl
    have e0 : c0 = Value.int .i64 d := by simpa [z0] using hd
    have e1 : c1 = Value.int .i64 p := by simpa [z0] using hp
    have e2 : c2 = u := by simpa [z1] using hu
    exact ⟨(d, p, m), u, by rw [e0, e1, e2], hm, fd, fp⟩)
  obtain ⟨M, hM, hR⟩ := choose_list L hQ
  refine ⟨M, hM.symm, ⟨fun k d p m hk => ?_, by omega, hmax⟩⟩
  have hkL : k < L.length := by rw [← hM]; exact (List.getElem?_eq_some_iff.1 hk).1
  obtain ⟨y, hy, u, hcs, hm, fd, fp⟩ := hR k _ (List.getElem?_eq_getElem hkL)
  have e : y = (d, p, m) := Option.some.inj (hy.symm.trans hk)
  subst e
  obtain ⟨b, o, ha, hb, hc⟩ := hrd (by omega)
  refine ⟨b, o, u, ha, hb, ?_, ?_, ?_, hm, fd, fp⟩
  · exact hc k _ 0 _ (List.getElem?_eq_getElem hkL) (by rw [hcs]; rfl)
  · exact hc k _ 1 _ (List.getElem?_eq_getElem hkL) (by rw [hcs]; rfl)
  · exact hc k _ 2 _ (List.getElem?_eq_getElem hkL) (by rw [hcs]; rfl)
end
theorem InA40.on {w w' : World} {a : Option Addr} {c : Nat} {l : List (Int × Int × List Nat)} (h : InA40 w a c l) (hb : Below w.heap.size w w') : InA40 w' a c l :=
  ⟨fun k d p m hk => by
    obtain ⟨b, o, u, ha, hl, h1, h2, h3, h4, h5⟩ := h.rd k d p m hk
    exact ⟨b, o, u, ha, Nat.lt_of_lt_of_le hl hb.size, (hb.cell hl).trans h1, (hb.cell hl).trans h2, (hb.cell hl).trans h3, h4.on hb, h5⟩, h.cap, h.max⟩
/-- what huge tells: if not, there are few acts, all short. -/
def Huge40R (l : List (Int × Int × List Nat)) (w : World) (e : Ending) (w' : World) : Prop := ∃ b : Bool, e = .returned (.bool b) ∧ w = w' ∧ (b = false → l.length ≤ 100 ∧ ∀ (k : Nat) d p m, l[k]? = some (d, p, m) → m.length ≤ 200)
set_option maxRecDepth 100000 in
theorem huge40 {w : World} {a : Option Addr} {c : Nat} {l : List (Int × Int × List Nat)} (h : InA40 w a c l) :
    Calls Try.prog 32 #[.slice a l.length c] w (Huge40R l w) := by
  have HA := hide h
  have hll : l.length ≤ 9223372036854775807 := Nat.le_trans h.cap h.max
  clear h
  go_enter Try.func32, Try.ntmps32
  go_wp2
  go_loop [3] (fun i => ∃ k : Nat, k ≤ l.length ∧ k ≤ 200 ∧ i = .int .i64 k ∧ Hid (∀ (j : Nat) d p m, j < k → l[j]? = some (d, p, m) → m.length ≤ 200)) (fun i => 200 - (intOf i).toNat)
  case atStart => exact ⟨0, Nat.zero_le _, by omega, rfl, fun j d p m h => absurd h (by omega)⟩
  case round =>
    obtain ⟨k, hk, hk2, rfl, hr⟩ := hrel
    by_cases hlt : k < l.length ∧ k < 200
    · obtain ⟨hlt, hlt2⟩ := hlt
      obtain ⟨⟨d, p, m⟩, hpm⟩ : ∃ x, l[k]? = some x := ⟨_, List.getElem?_eq_getElem hlt⟩
      obtain ⟨b, o, u, rfl, _, h1, h2, h3, ⟨A, cA, rfl, _, _, hml⟩, _⟩ := HA.out.rd k d p m hpm
      have HP := hide hpm
      clear hpm h1 h2
      by_cases h200 : 200 < m.length
      · go_wp2
        go_ret
        exact ⟨true, rfl, rfl, fun h => by cases h⟩
      · go_wp2
        go_round
        case rel =>
          refine ⟨k + 1, by omega, by omega, by go_num, fun j d' p' m' hj hjm => ?_⟩
          by_cases e : j = k
          · subst e
            have := HP.out.symm.trans hjm
            injection this with this; injection this with _ this; injection this with _ this
            subst this; omega
          · exact hr.out j d' p' m' (by omega) hjm
        case measure => simp [intOf]; omega
    · by_cases h1 : k < l.length
      · have h2 : k = 200 := by omega
        subst h2
        have h100 : 100 < l.length := by omega
        clear hlt h100
        go_wp2
        go_ret
        exact ⟨decide ((100 : Int) < (l.length : Int)), rfl, rfl, fun h => by have := of_decide_eq_false h; omega⟩
      · obtain rfl : k = l.length := by omega
        clear hlt h1 hk2
        go_wp2
        go_ret
        exact ⟨decide ((100 : Int) < (l.length : Int)), rfl, rfl, fun h => ⟨by have := of_decide_eq_false h; omega, fun k d p m hkm => hr.out k d p m (List.getElem?_eq_some_iff.1 hkm).1 hkm⟩⟩
end Go.Proofs.Ytfcappddncnglaa
