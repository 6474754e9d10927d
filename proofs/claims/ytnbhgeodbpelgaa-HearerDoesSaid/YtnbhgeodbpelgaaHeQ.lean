/- What layer 21's law is told of acts that came in; huge. No conditions. -/
import Derived.Test.YtnbhgeodbpelgaaInC
import Derived.ChangeSame
namespace Go.Proofs.Ytnbhgeodbpelgaa
open Go.ChangeShapes Go.WideShapes Go.ChangeAt Go.RowKit Go.Deep Go.Joins
set_option linter.unusedVariables false

theorem four_ofC {α : Type} {cs : List α} (h : cs.length = 4) : ∃ a b c d, cs = [a, b, c, d] := by
  match cs, h with
  | [a, b, c, d], _ => exact ⟨a, b, c, d, rfl⟩
/-- an act of layer 21: what it is, its packet. -/
abbrev Act21 := Int × Prb
def a21C (x : Act21) (u : Value) : List Value := [.int .i64 x.1, .int .i64 x.2.1, .int .i64 x.2.2.1, u]
structure InA21 (w : World) (a : Option Addr) (c : Nat) (l : List Act21) : Prop where
  rd : ∀ (k : Nat) x, l[k]? = some x → ∃ b o u, a = some ⟨b, o, none⟩ ∧ b < w.heap.size ∧ (∀ (j : Nat) z, (a21C x u)[j]? = some z → w.cell? ⟨b, o + k * 4 + j, none⟩ = some z) ∧ PrOk w x.2 u ∧ Fit x.1
  cap : l.length ≤ c
  max : c ≤ 9223372036854775807
section
variable {H : Type} {enc : TypeId × Value → H} {w : World} {base : Nat} {spare : Nat → Bool} {held : Bool}
theorem open_act21 {a : Option Addr} {len cap : Nat} {d : DataW H} {p : List MemPlace} (h : DataW.Trod enc Try.prog w base spare held 66 (.slice a len cap) d p) : ∃ l, len = l.length ∧ InA21 w a cap l := by
  obtain ⟨fuel, hf⟩ := h
  obtain ⟨L, rfl, hcap, hmax, hQ, hrd⟩ := open_rows (sz := 4) (Q := fun cs => ∃ (x : Act21) (u : Value), cs = a21C x u ∧ PrOk w x.2 u ∧ Fit x.1) Try.underlying66 (by kernel_rfl) (by omega) (by simpa [Value.cells] using hf) (fun n cs y hy => by
    obtain ⟨y0, y1, n, _, hl, h0, h1⟩ := trod_struct2 Try.underlying72 hy
    have hl2 : cs.length = 4 := hl.trans (by kernel_rfl)
    obtain ⟨c0, c1, c2, c3, rfl⟩ := four_ofC hl2
    obtain ⟨d, hd, fd⟩ := field_int Try.underlying3 h0
    have z0 : Try.prog.cellsOf 3 = 1 := by kernel_rfl
    have z1 : Try.prog.cellsOf 36 = 3 := by kernel_rfl
    have e0 : c0 = Value.int .i64 d := by simpa [z0] using hd
    obtain ⟨p, u, e, hp⟩ := prb_of h1
    have e3 : [c1, c2, c3] = prC p u := by rw [← e]; simp [z1]
    unfold prC at e3
    simp only [List.cons.injEq, and_true] at e3
    obtain ⟨e3, e4, e5⟩ := e3
    exact ⟨(d, p), u, by rw [e0, e3, e4, e5]; rfl, hp, fd⟩)
  obtain ⟨M, hM, hR⟩ := choose_list L hQ
  refine ⟨M, hM.symm, ⟨fun k x hk => ?_, by omega, hmax⟩⟩
  have hkL : k < L.length := by rw [← hM]; exact (List.getElem?_eq_some_iff.1 hk).1
  obtain ⟨y, hy, u, hcs, hp, fd⟩ := hR k _ (List.getElem?_eq_getElem hkL)
  have e : y = x := Option.some.inj (hy.symm.trans hk)
  subst e
  obtain ⟨b, o, ha, hb, hc⟩ := hrd (by omega)
  exact ⟨b, o, u, ha, hb, fun j z hz => hc k _ j _ (List.getElem?_eq_getElem hkL) (by rw [hcs]; exact hz), hp, fd⟩
end
/-- what huge tells: if not, there are few acts, all short. -/
def Huge21R (l : List Act21) (w : World) (e : Ending) (w' : World) : Prop := ∃ b : Bool, e = .returned (.bool b) ∧ w = w' ∧ (b = false → l.length ≤ 100 ∧ ∀ (k : Nat) x, l[k]? = some x → x.2.2.2.length ≤ 200)
set_option maxRecDepth 100000 in
theorem huge21 {w : World} {a : Option Addr} {c : Nat} {l : List Act21} (h : InA21 w a c l) :
    Calls Try.prog 36 #[.slice a l.length c] w (Huge21R l w) := by
  have HA := hide h
  have hll : l.length ≤ 9223372036854775807 := Nat.le_trans h.cap h.max
  clear h
  go_enter Try.func36, Try.ntmps36
  go_wp2
  go_loop [3] (fun i => ∃ k : Nat, k ≤ l.length ∧ k ≤ 200 ∧ i = .int .i64 k ∧ Hid (∀ (j : Nat) x, j < k → l[j]? = some x → x.2.2.2.length ≤ 200)) (fun i => 200 - (intOf i).toNat)
  case atStart => exact ⟨0, Nat.zero_le _, by omega, rfl, fun j x h => absurd h (by omega)⟩
  case round =>
    obtain ⟨k, hk, hk2, rfl, hr⟩ := hrel
    by_cases hlt : k < l.length ∧ k < 200
    · obtain ⟨hlt, hlt2⟩ := hlt
      obtain ⟨x, hpm⟩ : ∃ x, l[k]? = some x := ⟨_, List.getElem?_eq_getElem hlt⟩
      obtain ⟨b, o, u, rfl, _, h1, ⟨⟨A5, c5, rfl, _, _, hl5, _⟩, _, _⟩, _⟩ := HA.out.rd k x hpm
      have HP := hide hpm
      have q5 := h1 3 _ rfl
      obtain ⟨n5, hn5⟩ : ∃ n, n = x.2.2.2.length := ⟨_, rfl⟩
      rw [← hn5] at q5 hl5
      have HN5 := hide hn5
      clear hpm h1 hn5
      by_cases h205 : 200 < n5
      · go_wp2
        go_ret
        exact ⟨true, rfl, rfl, fun h => by cases h⟩
      · go_wp2
        go_round
        case rel =>
          refine ⟨k + 1, by omega, by omega, by go_num, fun j x' hj hjm => ?_⟩
          by_cases e : j = k
          · subst e
            have := HP.out.symm.trans hjm
            injection this with this
            subst this
            have := HN5.out
            omega
          · exact hr.out j x' (by omega) hjm
        case measure => simp [intOf]; omega
    · by_cases h1 : k < l.length
      · have h2 : k = 200 := by omega
        subst h2
        have h100 : 100 < l.length := by omega
        clear hlt
        go_wp2
        go_ret
        exact ⟨decide ((100 : Int) < (l.length : Int)), rfl, rfl, fun h => by have := of_decide_eq_false h; omega⟩
      · obtain rfl : k = l.length := by omega
        clear hlt h1 hk2
        go_wp2
        go_ret
        exact ⟨decide ((100 : Int) < (l.length : Int)), rfl, rfl, fun h => ⟨by have := of_decide_eq_false h; omega, fun k x hkm => hr.out k x (List.getElem?_eq_some_iff.1 hkm).1 hkm⟩⟩
end Go.Proofs.Ytnbhgeodbpelgaa
