/- What layer 28's laws are told of packets and acts that came in. No conditions. -/
import Derived.Test.YtfcappddncnglaaInM2
import Derived.Test.YtfcappddncnglaaGivC
namespace Go.Proofs.Ytfcappddncnglaa
open Go.ChangeShapes Go.WideShapes Go.ChangeAt Go.RowKit Go.Deep
set_option linter.unusedVariables false

theorem five_of {α : Type} {cs : List α} (h : cs.length = 5) : ∃ a b c d e, cs = [a, b, c, d, e] := by
  match cs, h with
  | [a, b, c, d, e], _ => exact ⟨a, b, c, d, e, rfl⟩
theorem six_of {α : Type} {cs : List α} (h : cs.length = 6) : ∃ a b c d e f, cs = [a, b, c, d, e, f] := by
  match cs, h with
  | [a, b, c, d, e, f], _ => exact ⟨a, b, c, d, e, f, rfl⟩
/-- the cells of a packet. -/
def pkC (p : Pk) (A : Option Addr) (c : Nat) : List Value := [.int .i64 p.k, .int .u64 (p.T : Nat), .int .u64 (p.C : Nat), .int .u64 (p.R : Nat), .slice A p.d.length c]
/-- its data, and its numbers. -/
structure PkOk (w : World) (p : Pk) (A : Option Addr) (c : Nat) : Prop where
  rd : Rd w.heap.size w A (u8s p.d)
  byt : Byt p.d
  len : p.d.length ≤ 9223372036854775807
  cap : p.d.length ≤ c
  k : Fit p.k
  T : p.T < 18446744073709551616
  C : p.C < 18446744073709551616
  R : p.R < 18446744073709551616
theorem PkOk.on {w w' : World} {p : Pk} {A : Option Addr} {c : Nat} (h : PkOk w p A c) (hb : Below w.heap.size w w') : PkOk w' p A c := ⟨h.rd.on hb, h.byt, h.len, h.cap, h.k, h.T, h.C, h.R⟩
/-- acts of layer 28. -/
structure InA28 (w : World) (a : Option Addr) (c : Nat) (l : List (Int × Pk)) : Prop where
  rd : ∀ (k : Nat) d p, l[k]? = some (d, p) → ∃ b o A cA, a = some ⟨b, o, none⟩ ∧ b < w.heap.size ∧ w.cell? ⟨b, o + k * 6, none⟩ = some (.int .i64 d) ∧ (∀ (j : Nat) v, (pkC p A cA)[j]? = some v → w.cell? ⟨b, o + k * 6 + (j + 1), none⟩ = some v) ∧ PkOk w p A cA ∧ Fit d
  cap : l.length ≤ c
  max : c ≤ 9223372036854775807
theorem InA28.on {w w' : World} {a : Option Addr} {c : Nat} {l : List (Int × Pk)} (h : InA28 w a c l) (hb : Below w.heap.size w w') : InA28 w' a c l :=
  ⟨fun k d p hk => by
    obtain ⟨b, o, A, cA, ha, hl, h1, h2, h3, h4⟩ := h.rd k d p hk
    exact ⟨b, o, A, cA, ha, Nat.lt_of_lt_of_le hl hb.size, (hb.cell (p := ⟨b, o + k * 6, none⟩) hl).trans h1, fun j v hv => (hb.cell (p := ⟨b, o + k * 6 + (j + 1), none⟩) hl).trans (h2 j v hv), h3.on hb, h4⟩, h.cap, h.max⟩
section
variable {H : Type} {enc : TypeId × Value → H} {P : Program} {w : World} {base : Nat} {spare : Nat → Bool} {held : Bool}
theorem trod_struct5 {t : TypeId} {f0 f1 f2 f3 f4 : Field} {fuel : Nat} {cs : List Value} {x : DataW H × List MemPlace} (ht : P.underlying t = some (.struct #[f0, f1, f2, f3, f4])) (h : DataW.trod enc P w base spare held fuel t cs = some x) :
    ∃ (y0 y1 y2 y3 y4 : DataW H × List MemPlace) (n : Nat), cs.length = P.cellsOf t ∧ DataW.trod enc P w base spare held n f0.type ((cs.drop f0.offset).take (P.cellsOf f0.type)) = some y0 ∧
      DataW.trod enc P w base spare held n f1.type ((cs.drop f1.offset).take (P.cellsOf f1.type)) = some y1 ∧ DataW.trod enc P w base spare held n f2.type ((cs.drop f2.offset).take (P.cellsOf f2.type)) = some y2 ∧
      DataW.trod enc P w base spare held n f3.type ((cs.drop f3.offset).take (P.cellsOf f3.type)) = some y3 ∧ DataW.trod enc P w base spare held n f4.type ((cs.drop f4.offset).take (P.cellsOf f4.type)) = some y4 := by
  obtain ⟨xs, n, _, rfl, hl, hlen, hf⟩ := DataW.trod_struct ht h
  match xs, hlen with
  | [y0, y1, y2, y3, y4], _ => exact ⟨y0, y1, y2, y3, y4, n, hl, by simpa using hf 0 f0 rfl, by simpa using hf 1 f1 rfl, by simpa using hf 2 f2 rfl, by simpa using hf 3 f3 rfl, by simpa using hf 4 f4 rfl⟩
theorem open_agg_any {r : Reach} {b0 : Nat} {t : TypeId} {fs : Array Field} {v : Value} {d : DataW H} {p : List MemPlace} (hs : P.underlying t = some (.struct fs)) (hv : Value.okWide P w r b0 t v) (h : DataW.Trod enc P w base spare held t v d p) :
    ∃ (cs : List Value) (fuel : Nat), v = .agg cs.toArray ∧ DataW.trod enc P w base spare held fuel t cs = some (d, p) := by
  obtain ⟨⟨cs⟩, rfl, hsz⟩ := okWide_struct hs hv
  obtain ⟨fuel, hf⟩ := h
  exact ⟨cs, fuel, rfl, hf⟩
end
section
variable {H : Type} {enc : TypeId × Value → H} {w : World} {base : Nat} {spare : Nat → Bool} {held : Bool}
theorem tok_of {fuel : Nat} {cs : List Value} {x : DataW H × List MemPlace} (h : DataW.trod enc Try.prog w base spare held fuel 96 cs = some x) : ∃ p A c, cs = pkC p A c ∧ PkOk w p A c := by
  obtain ⟨y0, y1, y2, y3, y4, n, hl, h0, h1, h2, h3, h4⟩ := trod_struct5 Try.underlying96 h
  have hl2 : cs.length = 5 := hl.trans (by kernel_rfl)
  obtain ⟨c0, c1, c2, c3, c4, rfl⟩ := five_of hl2
  obtain ⟨k, hk, fk⟩ := field_int Try.underlying3 h0
  obtain ⟨T, hT, fT⟩ := field_u64 Try.underlying94 h1
  obtain ⟨C, hC, fC⟩ := field_u64 Try.underlying94 h2
  obtain ⟨R, hR, fR⟩ := field_u64 Try.underlying94 h3
  obtain ⟨u, m, hu, hm, hcp⟩ := field_bytesC Try.underlying33 Try.underlying5 (by kernel_rfl) h4
  have z0 : Try.prog.cellsOf 3 = 1 := by kernel_rfl
  have z1 : Try.prog.cellsOf 33 = 1 := by kernel_rfl
  have z2 : Try.prog.cellsOf 94 = 1 := by kernel_rfl
  have e0 : c0 = Value.int .i64 k := by simpa [z0] using hk
  have e1 : c1 = Value.int .u64 (T : Nat) := by simpa [z2] using hT
  have e2 : c2 = Value.int .u64 (C : Nat) := by simpa [z2] using hC
  have e3 : c3 = Value.int .u64 (R : Nat) := by simpa [z2] using hR
  have e4 : c4 = u := by simpa [z1] using hu
  obtain ⟨A, c, rfl, hr, hby, hln⟩ := hm
  exact ⟨⟨k, T, C, R, m⟩, A, c, by rw [e0, e1, e2, e3, e4]; rfl, hr, hby, hln, hcp A c rfl, fk, fT, fC, fR⟩
set_option maxRecDepth 100000 in
theorem open_tok {r : Reach} {b0 : Nat} {v : Value} {d : DataW H} {p : List MemPlace} (hv : Value.okWide Try.prog w r b0 96 v) (h : DataW.Trod enc Try.prog w base spare held 96 v d p) : ∃ q A c, v = .agg (pkC q A c).toArray ∧ PkOk w q A c := by
  obtain ⟨cs, fuel, rfl, hf⟩ := open_agg_any Try.underlying96 hv h
  obtain ⟨q, A, c, e, hq⟩ := tok_of hf
  exact ⟨q, A, c, by rw [e], hq⟩
theorem open_act28 {a : Option Addr} {len cap : Nat} {d : DataW H} {p : List MemPlace} (h : DataW.Trod enc Try.prog w base spare held 82 (.slice a len cap) d p) : ∃ l, len = l.length ∧ InA28 w a cap l := by
  obtain ⟨fuel, hf⟩ := h
  obtain ⟨L, rfl, hcap, hmax, hQ, hrd⟩ := open_rows (sz := 6) (Q := fun cs => ∃ (x : Int × Pk) (A : Option Addr) (c : Nat), cs = .int .i64 x.1 :: pkC x.2 A c ∧ PkOk w x.2 A c ∧ Fit x.1) Try.underlying82 (by kernel_rfl) (by omega) (by simpa [Value.cells] using hf) (fun n cs y hy => by
    obtain ⟨y0, y1, n, _, hl, h0, h1⟩ := trod_struct2 Try.underlying98 hy
    have hl2 : cs.length = 6 := hl.trans (by kernel_rfl)
    obtain ⟨c0, c1, c2, c3, c4, c5, rfl⟩ := six_of hl2
    obtain ⟨d, hd, fd⟩ := field_int Try.underlying3 h0
    have z0 : Try.prog.cellsOf 3 = 1 := by kernel_rfl
    have z1 : Try.prog.cellsOf 96 = 5 := by kernel_rfl
    have e0 : c0 = Value.int .i64 d := by simpa [z0] using hd
    obtain ⟨p, A, c, e, hp⟩ := tok_of h1
    exact ⟨(d, p), A, c, by rw [e0, ← e]; simp [z1], hp, fd⟩)
  obtain ⟨M, hM, hR⟩ := choose_list L hQ
  refine ⟨M, hM.symm, ⟨fun k d p hk => ?_, by omega, hmax⟩⟩
  have hkL : k < L.length := by rw [← hM]; exact (List.getElem?_eq_some_iff.1 hk).1
  obtain ⟨y, hy, A, c, hcs, hp, fd⟩ := hR k _ (List.getElem?_eq_getElem hkL)
  have e : y = (d, p) := Option.some.inj (hy.symm.trans hk)
  subst e
  obtain ⟨b, o, ha, hb, hc⟩ := hrd (by omega)
  refine ⟨b, o, A, c, ha, hb, ?_, fun j v hv => ?_, hp, fd⟩
  · exact hc k _ 0 _ (List.getElem?_eq_getElem hkL) (by rw [hcs]; rfl)
  · exact hc k _ (j + 1) _ (List.getElem?_eq_getElem hkL) (by rw [hcs]; simpa using hv)
end
/-- what huge tells: if not, there are few acts, all short, and few draws. -/
def Huge28R (l : List (Int × Pk)) (n : Nat) (w : World) (e : Ending) (w' : World) : Prop := ∃ b : Bool, e = .returned (.bool b) ∧ w = w' ∧ (b = false → l.length ≤ 100 ∧ n ≤ 200 ∧ ∀ (k : Nat) d p, l[k]? = some (d, p) → p.d.length ≤ 200)
set_option maxRecDepth 100000 in
theorem huge28 {w : World} {a : Option Addr} {c : Nat} {l : List (Int × Pk)} (h : InA28 w a c l) (D : Option Addr) (n cd : Nat) (hn : n ≤ 9223372036854775807) :
    Calls Try.prog 49 #[.slice a l.length c, .slice D n cd] w (Huge28R l n w) := by
  have HA := hide h
  have hll : l.length ≤ 9223372036854775807 := Nat.le_trans h.cap h.max
  clear h
  go_enter Try.func49, Try.ntmps49
  go_wp2
  go_loop [5] (fun i => ∃ k : Nat, k ≤ l.length ∧ k ≤ 200 ∧ i = .int .i64 k ∧ Hid (∀ (j : Nat) d p, j < k → l[j]? = some (d, p) → p.d.length ≤ 200)) (fun i => 200 - (intOf i).toNat)
  case atStart => exact ⟨0, Nat.zero_le _, by omega, rfl, fun j d p h => absurd h (by omega)⟩
  case round =>
    obtain ⟨k, hk, hk2, rfl, hr⟩ := hrel
    by_cases hlt : k < l.length ∧ k < 200
    · obtain ⟨hlt, hlt2⟩ := hlt
      obtain ⟨⟨d, p⟩, hpm⟩ : ∃ x, l[k]? = some x := ⟨_, List.getElem?_eq_getElem hlt⟩
      obtain ⟨b, o, A, cA, rfl, _, h1, h2, h3, _⟩ := HA.out.rd k d p hpm
      have HP := hide hpm
      have h5 := h2 4 _ rfl
      have hml := h3.len
      clear hpm h1 h2 h3
      by_cases h200 : 200 < p.d.length
      · go_wp2
        go_ret
        exact ⟨true, rfl, rfl, fun h => by cases h⟩
      · go_wp2
        go_round
        case rel =>
          refine ⟨k + 1, by omega, by omega, by go_num, fun j d' p' hj hjm => ?_⟩
          by_cases e : j = k
          · subst e
            have := HP.out.symm.trans hjm
            injection this with this; injection this with _ this
            subst this; omega
          · exact hr.out j d' p' (by omega) hjm
        case measure => simp [intOf]; omega
    · by_cases h1 : k < l.length
      · have h2 : k = 200 := by omega
        subst h2
        have h100 : 100 < l.length := by omega
        clear hlt
        go_wp2
        go_ret
        exact ⟨true, rfl, rfl, fun h => by cases h⟩
      · obtain rfl : k = l.length := by omega
        clear hlt h1 hk2
        by_cases h100 : 100 < l.length
        · go_wp2
          go_ret
          exact ⟨true, rfl, rfl, fun h => by cases h⟩
        · go_wp2
          go_ret
          exact ⟨decide ((100 : Int) < (l.length : Int)) || decide ((200 : Int) < (n : Int)), rfl, rfl, fun h => by
            simp only [Bool.or_eq_false_iff] at h
            have h2 := of_decide_eq_false h.2
            exact ⟨by omega, by omega, fun k d p hkm => hr.out k d p (List.getElem?_eq_some_iff.1 hkm).1 hkm⟩⟩
end Go.Proofs.Ytfcappddncnglaa
