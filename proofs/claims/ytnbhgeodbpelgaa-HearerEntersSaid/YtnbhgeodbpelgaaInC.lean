/- What layer 20's laws are told of packets and acts that came in. No conditions. -/
import Derived.Test.YtnbhgeodbpelgaaInN
import Derived.Test.YtnbhgeodbpelgaaCalA
import Derived.Deep.Strs
import Derived.Lib.SmallJoins
namespace Go.Proofs.Ytnbhgeodbpelgaa
open Go.ChangeShapes Go.WideShapes Go.ChangeAt Go.RowKit Go.Deep Go.Joins
set_option linter.unusedVariables false

theorem three_ofC {α : Type} {cs : List α} (h : cs.length = 3) : ∃ a b c, cs = [a, b, c] := by
  match cs, h with
  | [a, b, c], _ => exact ⟨a, b, c, rfl⟩
theorem six_ofC {α : Type} {cs : List α} (h : cs.length = 6) : ∃ a b c d e f, cs = [a, b, c, d, e, f] := by
  match cs, h with
  | [a, b, c, d, e, f], _ => exact ⟨a, b, c, d, e, f, rfl⟩
/-- a text in a slice value, and the slice's cap. -/
def FBC (w : World) (u : Value) (m : List Nat) : Prop := ∃ A c, u = .slice A m.length c ∧ Rd w.heap.size w A (u8s m) ∧ Byt m ∧ m.length ≤ 9223372036854775807 ∧ m.length ≤ c
theorem field_textC {H : Type} {enc : TypeId × Value → H} {P : Program} {w : World} {base : Nat} {spare : Nat → Bool} {held : Bool} {t e : TypeId} {fuel : Nat} {cs : List Value} {x : DataW H × List MemPlace} (ht : P.underlying t = some (.slice e)) (he : P.underlying e = some (.int .u8)) (hc : P.cellsOf e = 1)
    (h : DataW.trod enc P w base spare held fuel t cs = some x) : ∃ u m, cs = [u] ∧ FBC w u m := by
  obtain ⟨u, m, hu, A, c, rfl, h1, h2, h3⟩ := field_bytes ht he hc h
  subst hu
  obtain ⟨l, h4, hcap, _⟩ := open_row ht he hc h
  exact ⟨_, m, rfl, A, c, rfl, h1, h2, h3, by omega⟩
/-- the cells of a packet. -/
def prC (p : Prb) (u : Value) : List Value := [.int .i64 p.1, .int .i64 p.2.1, u]
structure PrOk (w : World) (p : Prb) (u : Value) : Prop where
  d : FBC w u p.2.2
  k : Fit p.1
  l : Fit p.2.1
section
variable {H : Type} {enc : TypeId × Value → H} {w : World} {base : Nat} {spare : Nat → Bool} {held : Bool}
theorem prb_of {fuel : Nat} {cs : List Value} {x : DataW H × List MemPlace} (h : DataW.trod enc Try.prog w base spare held fuel 36 cs = some x) : ∃ p u, cs = prC p u ∧ PrOk w p u := by
  obtain ⟨y0, y1, y2, n, _, hl, h0, h1, h2⟩ := trod_struct3 Try.underlying36 h
  have hl2 : cs.length = 3 := hl.trans (by kernel_rfl)
  obtain ⟨c0, c1, c2, rfl⟩ := three_ofC hl2
  obtain ⟨k, hk, fk⟩ := field_int Try.underlying3 h0
  obtain ⟨l, hl, fl⟩ := field_int Try.underlying3 h1
  obtain ⟨u, m, hu, hm⟩ := field_textC Try.underlying34 Try.underlying5 (by kernel_rfl) h2
  have z0 : Try.prog.cellsOf 3 = 1 := by kernel_rfl
  have z1 : Try.prog.cellsOf 34 = 1 := by kernel_rfl
  have e0 : c0 = Value.int .i64 k := by simpa [z0] using hk
  have e1 : c1 = Value.int .i64 l := by simpa [z0] using hl
  have e2 : c2 = u := by simpa [z1] using hu
  exact ⟨(k, l, m), u, by rw [e0, e1, e2]; rfl, hm, fk, fl⟩
end
/-- an act of layer 20: what it is, its number, its text, its packet. -/
abbrev Act20 := Int × Int × List Nat × Prb
def a20C (x : Act20) (v u : Value) : List Value := [.int .i64 x.1, .int .i64 x.2.1, v, .int .i64 x.2.2.2.1, .int .i64 x.2.2.2.2.1, u]
structure InA20 (w : World) (a : Option Addr) (c : Nat) (l : List Act20) : Prop where
  rd : ∀ (k : Nat) x, l[k]? = some x → ∃ b o v u, a = some ⟨b, o, none⟩ ∧ b < w.heap.size ∧ (∀ (j : Nat) z, (a20C x v u)[j]? = some z → w.cell? ⟨b, o + k * 6 + j, none⟩ = some z) ∧ FBC w v x.2.2.1 ∧ PrOk w x.2.2.2 u ∧ Fit x.1 ∧ Fit x.2.1
  cap : l.length ≤ c
  max : c ≤ 9223372036854775807
section
variable {H : Type} {enc : TypeId × Value → H} {w : World} {base : Nat} {spare : Nat → Bool} {held : Bool}
theorem open_act20 {a : Option Addr} {len cap : Nat} {d : DataW H} {p : List MemPlace} (h : DataW.Trod enc Try.prog w base spare held 23 (.slice a len cap) d p) : ∃ l, len = l.length ∧ InA20 w a cap l := by
  obtain ⟨fuel, hf⟩ := h
  obtain ⟨L, rfl, hcap, hmax, hQ, hrd⟩ := open_rows (sz := 6) (Q := fun cs => ∃ (x : Act20) (v u : Value), cs = a20C x v u ∧ FBC w v x.2.2.1 ∧ PrOk w x.2.2.2 u ∧ Fit x.1 ∧ Fit x.2.1) Try.underlying23 (by kernel_rfl) (by omega) (by simpa [Value.cells] using hf) (fun n cs y hy => by
    obtain ⟨y0, y1, y2, y3, n, _, hl, h0, h1, h2, h3⟩ := trod_struct4 Try.underlying38 hy
    have hl2 : cs.length = 6 := hl.trans (by kernel_rfl)
    obtain ⟨c0, c1, c2, c3, c4, c5, rfl⟩ := six_ofC hl2
    obtain ⟨d, hd, fd⟩ := field_int Try.underlying3 h0
    obtain ⟨i, hi, fi⟩ := field_int Try.underlying3 h1
    obtain ⟨v, m, hv, hm⟩ := field_textC Try.underlying34 Try.underlying5 (by kernel_rfl) h2
    have z0 : Try.prog.cellsOf 3 = 1 := by kernel_rfl
    have z1 : Try.prog.cellsOf 36 = 3 := by kernel_rfl
    have z2 : Try.prog.cellsOf 34 = 1 := by kernel_rfl
    have e0 : c0 = Value.int .i64 d := by simpa [z0] using hd
    have e1 : c1 = Value.int .i64 i := by simpa [z0] using hi
    have e2 : c2 = v := by simpa [z2] using hv
    obtain ⟨p, u, e, hp⟩ := prb_of h3
    have e3 : [c3, c4, c5] = prC p u := by rw [← e]; simp [z1]
    unfold prC at e3
    simp only [List.cons.injEq, and_true] at e3
    obtain ⟨e3, e4, e5⟩ := e3
    exact ⟨(d, i, m, p), v, u, by rw [e0, e1, e2, e3, e4, e5]; rfl, hm, hp, fd, fi⟩)
  obtain ⟨M, hM, hR⟩ := choose_list L hQ
  refine ⟨M, hM.symm, ⟨fun k x hk => ?_, by omega, hmax⟩⟩
  have hkL : k < L.length := by rw [← hM]; exact (List.getElem?_eq_some_iff.1 hk).1
  obtain ⟨y, hy, v, u, hcs, hm, hp, fd, fi⟩ := hR k _ (List.getElem?_eq_getElem hkL)
  have e : y = x := Option.some.inj (hy.symm.trans hk)
  subst e
  obtain ⟨b, o, ha, hb, hc⟩ := hrd (by omega)
  exact ⟨b, o, v, u, ha, hb, fun j z hz => hc k _ j _ (List.getElem?_eq_getElem hkL) (by rw [hcs]; exact hz), hm, hp, fd, fi⟩
end
/-- what huge tells: if not, there are few acts, all short. -/
def Huge20R (l : List Act20) (w : World) (e : Ending) (w' : World) : Prop := ∃ b : Bool, e = .returned (.bool b) ∧ w = w' ∧ (b = false → l.length ≤ 100 ∧ ∀ (k : Nat) x, l[k]? = some x → x.2.2.1.length ≤ 200 ∧ x.2.2.2.2.2.length ≤ 200)
set_option maxRecDepth 100000 in
theorem huge20 {w : World} {a : Option Addr} {c : Nat} {l : List Act20} (h : InA20 w a c l) :
    Calls Try.prog 12 #[.slice a l.length c] w (Huge20R l w) := by
  have HA := hide h
  have hll : l.length ≤ 9223372036854775807 := Nat.le_trans h.cap h.max
  clear h
  go_enter Try.func12, Try.ntmps12
  go_wp2
  go_loop [3] (fun i => ∃ k : Nat, k ≤ l.length ∧ k ≤ 200 ∧ i = .int .i64 k ∧ Hid (∀ (j : Nat) x, j < k → l[j]? = some x → x.2.2.1.length ≤ 200 ∧ x.2.2.2.2.2.length ≤ 200)) (fun i => 200 - (intOf i).toNat)
  case atStart => exact ⟨0, Nat.zero_le _, by omega, rfl, fun j x h => absurd h (by omega)⟩
  case round =>
    obtain ⟨k, hk, hk2, rfl, hr⟩ := hrel
    by_cases hlt : k < l.length ∧ k < 200
    · obtain ⟨hlt, hlt2⟩ := hlt
      obtain ⟨x, hpm⟩ : ∃ x, l[k]? = some x := ⟨_, List.getElem?_eq_getElem hlt⟩
      obtain ⟨b, o, v, u, rfl, _, h1, ⟨A2, c2, rfl, _, _, hl2, _⟩, ⟨⟨A5, c5, rfl, _, _, hl5, _⟩, _, _⟩, _⟩ := HA.out.rd k x hpm
      have HP := hide hpm
      have q2 := h1 2 _ rfl
      have q5 := h1 5 _ rfl
      obtain ⟨n2, hn2⟩ : ∃ n, n = x.2.2.1.length := ⟨_, rfl⟩
      obtain ⟨n5, hn5⟩ : ∃ n, n = x.2.2.2.2.2.length := ⟨_, rfl⟩
      rw [← hn2] at q2 hl2
      rw [← hn5] at q5 hl5
      have HN2 := hide hn2
      have HN5 := hide hn5
      clear hpm h1 hn2 hn5
      by_cases h200 : 200 < n2
      · go_wp2
        go_ret
        exact ⟨true, rfl, rfl, fun h => by cases h⟩
      · by_cases h205 : 200 < n5
        · go_wp2
          go_ret
          exact ⟨true, rfl, rfl, fun h => by cases h⟩
        · go_wp2
          go_round
          case rel =>
            refine ⟨k + 1, by omega, by omega, by go_num, fun j x' hj hjm => ?_⟩
            by_cases e : j = k
            · subst e
              have := HP.out.symm.trans hjm
              injection this with this
              subst this
              have := HN2.out; have := HN5.out
              omega
            · exact hr.out j x' (by omega) hjm
          case measure => simp [intOf]; omega
    · by_cases h1 : k < l.length
      · have h2 : k = 200 := by omega
        subst h2
        have h100 : 100 < l.length := by omega
        clear hlt
        go_wp2
        go_ret
        exact ⟨decide ((100 : Int) < (l.length : Int)), rfl, rfl, fun h => by have := of_decide_eq_false h; omega⟩
      · obtain rfl : k = l.length := by omega
        clear hlt h1 hk2
        go_wp2
        go_ret
        exact ⟨decide ((100 : Int) < (l.length : Int)), rfl, rfl, fun h => ⟨by have := of_decide_eq_false h; omega, fun k x hkm => hr.out k x (List.getElem?_eq_some_iff.1 hkm).1 hkm⟩⟩
end Go.Proofs.Ytnbhgeodbpelgaa
