/- What layer 18's laws are told that came in: messages, with their labels. No conditions. -/
import Derived.Test.YtnbhgeodbpelgaaInC
import Derived.SizedLaws
namespace Go.Proofs.Ytnbhgeodbpelgaa
open Go.ChangeShapes Go.WideShapes Go.ChangeAt Go.RowKit Go.Deep Go.Joins
set_option linter.unusedVariables false

theorem weightsAll_memT {H : Type} {P : Program} {e : TypeId} : ∀ {l : List (DataW H)} {d : DataW H}, d ∈ l → ∀ n ∈ d.weights P e, n ∈ DataW.weightsAll P e l
  | x :: l, d, h, n, hn => by
    unfold DataW.weightsAll
    rcases List.mem_cons.1 h with rfl | h
    · exact List.mem_append.2 (.inl hn)
    · exact List.mem_append.2 (.inr (weightsAll_memT h n hn))
/-- what is told: its label, its text, whether all is let go ahead of it. -/
abbrev Told := Int × List Nat × Bool
structure InT (w : World) (a : Option Addr) (c : Nat) (l : List Told) : Prop where
  rd : ∀ (k : Nat) x, l[k]? = some x → ∃ b o A cA, a = some ⟨b, o, none⟩ ∧ b < w.heap.size ∧ w.cell? ⟨b, o + k * 3, none⟩ = some (.int .i64 x.1) ∧ w.cell? ⟨b, o + k * 3 + 1, none⟩ = some (.slice A x.2.1.length cA) ∧ w.cell? ⟨b, o + k * 3 + 2, none⟩ = some (.bool x.2.2) ∧
    Rd w.heap.size w A (u8s x.2.1) ∧ Byt x.2.1 ∧ x.2.1.length ≤ 140737488351232 ∧ Fit x.1
  cap : l.length ≤ c
  max : c ≤ 9223372036854775807
section
variable {H : Type} {enc : TypeId × Value → H} {w : World} {base : Nat} {spare : Nat → Bool} {held : Bool}
theorem open_act18 {ts : List TypeId} {ds : List (DataW H)} {a : Option Addr} {len cap : Nat} {d : DataW H} {p : List MemPlace} (h : DataW.Trod enc Try.prog w base spare held 78 (.slice a len cap) d p)
    (hsz : (DataW.weightsEach Try.prog ts ds).all (· ≤ reachBytes) = true) (j : Nat) (hj : ts[j]? = some 78) (hj' : ds[j]? = some d) : ∃ l, len = l.length ∧ InT w a cap l := by
  obtain ⟨fuel, hf⟩ := h
  have hf2 : DataW.trod enc Try.prog w base spare held fuel 78 [.slice a len cap] = some (d, p) := by simpa [Value.cells] using hf
  rcases open_slice Try.underlying78 hf2 with ⟨hcs, _⟩ | ⟨y, ln, c, m, n, D, Pl, hcs, _, hl, hm, hmm, hx, hxx⟩
  · simp at hcs
    obtain ⟨rfl, rfl, rfl⟩ := hcs
    exact ⟨[], rfl, fun k x hk => by simp at hk, Nat.le_refl _, by omega⟩
  · simp at hcs
    obtain ⟨rfl, rfl, rfl⟩ := hcs
    have hc : Try.prog.cellsOf 87 = 3 := by kernel_rfl
    have hlm : len ≤ m := by rw [hmm]; split <;> omega
    rw [hc] at hxx
    have hwt : ∀ i, i < len → ∀ k ∈ (D i).weights Try.prog 87, k ≤ reachBytes := fun i hi k hk => by
      refine of_decide_eq_true (List.all_eq_true.1 hsz _ (DataW.weights_mem_each hj hj' _ ?_))
      have e : d = (.slice ((List.range len).map D) ((List.range (m - len)).map fun j => D (len + j))) := congrArg Prod.fst hx
      rw [e]
      simp only [DataW.weights, Try.underlying78, List.mem_cons, List.mem_append]
      exact Or.inr (Or.inl (weightsAll_memT (List.mem_map.2 ⟨i, by simpa using hi, rfl⟩) k hk))
    have each : ∀ i, i < len → ∃ (x : Told) (A : Option Addr) (cA : Nat), w.cells? base (y.add (i * 3)) 3 = some [.int .i64 x.1, .slice A x.2.1.length cA, .bool x.2.2] ∧ Rd w.heap.size w A (u8s x.2.1) ∧ Byt x.2.1 ∧ x.2.1.length ≤ 140737488351232 ∧ Fit x.1 := fun i hi => by
      obtain ⟨cs, hcell, htr⟩ := hxx i (by omega)
      obtain ⟨y0, y1, y2, n', hy, hl, h0, h1, h2⟩ := trod_struct3 Try.underlying87 htr
      have hl2 : cs.length = 3 := hl.trans hc
      obtain ⟨c0, c1, c2, rfl⟩ := three_ofC hl2
      obtain ⟨lb, hlb, fl⟩ := field_int Try.underlying3 h0
      obtain ⟨u, m', hu, A, cA, rfl, g1, g2, g3, g4⟩ := field_textC Try.underlying34 Try.underlying5 (by kernel_rfl) h1
      obtain ⟨b, hb⟩ := field_bool Try.underlying4 h2
      have z0 : Try.prog.cellsOf 3 = 1 := by kernel_rfl
      have z1 : Try.prog.cellsOf 34 = 1 := by kernel_rfl
      have z2 : Try.prog.cellsOf 4 = 1 := by kernel_rfl
      have e0 : c0 = Value.int .i64 lb := by simpa [z0] using hlb
      have e1 : c1 = Value.slice A m'.length cA := by simpa [z1] using hu
      have e2 : c2 = Value.bool b := by simpa [z2] using hb
      subst e0 e1 e2
      refine ⟨(lb, m', b), A, cA, hcell, g1, g2, ?_, fl⟩
      have h1' := h1
      rw [hu] at h1'
      obtain ⟨_, _, _, _, _, _, hlo⟩ := open_row Try.underlying34 Try.underlying5 (by kernel_rfl) h1'
      rcases hlo with h0 | ⟨es, sp, he, hn⟩
      · show m'.length ≤ _; omega
      · have hmem : (es.length + sp.length) * 1 ∈ (D i).weights Try.prog 87 := by
          have e : D i = .agg [y0.1, y1.1, y2.1] := congrArg Prod.fst hy
          rw [e, he]
          have hb8 : Try.prog.bytesOf 5 = 1 := by kernel_rfl
          simp [DataW.weights, DataW.weightsEach, Try.underlying87, Try.underlying34, hb8]
        have := hwt i hi _ hmem
        have h3 : reachBytes = 140737488351232 := rfl
        show m'.length ≤ _; omega
    obtain ⟨f, hf⟩ := choose_lt (α := Told) (p := fun i x => ∃ (A : Option Addr) (cA : Nat), w.cells? base (y.add (i * 3)) 3 = some [.int .i64 x.1, .slice A x.2.1.length cA, .bool x.2.2] ∧ Rd w.heap.size w A (u8s x.2.1) ∧ Byt x.2.1 ∧ x.2.1.length ≤ 140737488351232 ∧ Fit x.1) each
    refine ⟨(List.range len).map f, by simp, ⟨fun k x hk => ?_, by simp; omega, by unfold maxLen at hm; exact hm⟩⟩
    rw [List.getElem?_map] at hk
    obtain ⟨k', hk', rfl⟩ := Option.map_eq_some_iff.1 hk
    have hkk : k' = k ∧ k < len := by
      obtain ⟨h2, h3⟩ := List.getElem?_eq_some_iff.1 hk'
      simp at h2 h3
      omega
    obtain ⟨rfl, hkl⟩ := hkk
    obtain ⟨A, cA, hcell, r1, r2, r3, r4⟩ := hf k' hkl
    have hc1 := World.cells?_some hcell
    have hat : ∀ j z, ([.int .i64 (f k').1, .slice A (f k').2.1.length cA, .bool (f k').2.2] : List Value)[j]? = some z → w.cell? ((y.add (k' * 3)).add j) = some z := fun j z hz => by
      have hjl : j < 3 := (List.getElem?_eq_some_iff.1 hz).1
      have := hc1.2.2 j hjl
      rw [hz] at this
      exact this
    have h0 := hat 0 _ rfl
    obtain ⟨A0, cA0, hcell0, _⟩ := hf 0 (by omega)
    have h00 := (World.cells?_some hcell0).2.2 0 (by omega)
    have hsp : y.spot = none := by
      have := World.cell?_spot (h00.trans rfl)
      simpa [Addr.add] using this
    have hlt : y.block < w.heap.size := by
      have := World.block_lt_of_cell? w _ (h00.trans rfl)
      simpa [Addr.add] using this
    obtain ⟨b, o, s⟩ := y
    simp only at hsp hlt
    subst hsp
    have ea : ∀ j, ((⟨b, o, none⟩ : Addr).add (k' * 3)).add j = ⟨b, o + k' * 3 + j, none⟩ := fun j => by rw [Go.Deep.add_add]; unfold Addr.add; split <;> simp_all <;> omega
    have h1 := hat 1 _ rfl
    have h2 := hat 2 _ rfl
    rw [ea] at h0 h1 h2
    rw [Nat.add_zero] at h0
    exact ⟨b, o, A, cA, rfl, hlt, h0, h1, h2, r1, r2, r3, r4⟩
end
/-- how long the first k texts are, together. -/
def sumL (l : List Told) (k : Nat) : Nat := ((l.take k).map (fun x => x.2.1.length)).sum
theorem sumL_succ {l : List Told} {k : Nat} {x : Told} (h : l[k]? = some x) : sumL l (k + 1) = sumL l k + x.2.1.length := by
  unfold sumL
  rw [List.take_add_one, h]
  simp
theorem sumL_one {l : List Told} {n k : Nat} {x : Told} (h : l[k]? = some x) (hn : k < n) : x.2.1.length ≤ sumL l n := by
  induction n with
  | zero => omega
  | succ n ih =>
    by_cases e : n < l.length
    · rw [sumL_succ (List.getElem?_eq_getElem e)]
      by_cases e2 : k = n
      · subst e2
        rw [List.getElem?_eq_getElem e] at h
        injection h with h
        subst h
        omega
      · have := ih (by omega); omega
    · have hk := (List.getElem?_eq_some_iff.1 h).1
      have h1 : sumL l (n + 1) = sumL l n := by unfold sumL; rw [List.take_of_length_le (by omega), List.take_of_length_le (by omega)]
      rw [h1]
      exact ih (by omega)
/-- what huge tells: if not, there are few, all short. -/
def Huge18R (l : List Told) (w : World) (e : Ending) (w' : World) : Prop := ∃ b : Bool, e = .returned (.bool b) ∧ w = w' ∧ (b = false → l.length ≤ 100 ∧ ∀ (k : Nat) x, l[k]? = some x → x.2.1.length ≤ 4000)
set_option maxRecDepth 100000 in
theorem huge18 {w : World} {a : Option Addr} {c : Nat} {l : List Told} (h : InT w a c l) :
    Calls Try.prog 43 #[.slice a l.length c] w (Huge18R l w) := by
  have HA := hide h
  have hll : l.length ≤ 9223372036854775807 := Nat.le_trans h.cap h.max
  clear h
  go_enter Try.func43, Try.ntmps43
  go_wp2
  go_loop [3, 4] (fun s i => ∃ k : Nat, k ≤ l.length ∧ k ≤ 200 ∧ i = .int .i64 k ∧ ∃ n : Nat, n ≤ k * 140737488351232 ∧ s = .int .i64 n ∧ Hid (n = sumL l k)) (fun _ i => 200 - (intOf i).toNat)
  case atStart => exact ⟨0, Nat.zero_le _, by omega, rfl, 0, by omega, rfl, rfl⟩
  case round =>
    obtain ⟨k, hk, hk2, rfl, n, hn, rfl, hsum⟩ := hrel
    by_cases hlt : k < l.length ∧ k < 200
    · obtain ⟨hlt, hlt2⟩ := hlt
      obtain ⟨x, hpm⟩ : ∃ x, l[k]? = some x := ⟨_, List.getElem?_eq_getElem hlt⟩
      obtain ⟨b, o, A, cA, rfl, _, _, q1, _, _, _, hxl, _⟩ := HA.out.rd k x hpm
      have HS : Hid (n + x.2.1.length = sumL l (k + 1)) := by show _ = _; rw [sumL_succ hpm, hsum.out]
      obtain ⟨m, hm⟩ : ∃ m, m = x.2.1.length := ⟨_, rfl⟩
      rw [← hm] at q1 hxl HS
      clear hpm hm
      go_wp2
      go_round
      case rel => exact ⟨k + 1, by omega, by omega, by go_num, n + m, by omega, by go_num, HS⟩
      case measure => simp [intOf]; omega
    · by_cases h1 : k < l.length
      · have h2 : k = 200 := by omega
        subst h2
        have h100 : 100 < l.length := by omega
        clear hlt
        go_wp2
        go_ret
        exact ⟨true, rfl, rfl, fun h => by cases h⟩
      · obtain rfl : k = l.length := by omega
        clear hlt h1
        by_cases h100 : 100 < l.length
        · go_wp2
          go_ret
          exact ⟨true, rfl, rfl, fun h => by cases h⟩
        · go_wp2
          go_ret
          exact ⟨decide ((100 : Int) < (l.length : Int)) || decide ((4000 : Int) < (n : Int)), rfl, rfl, fun h => ⟨by omega, fun k x hkm => by
            simp only [Bool.or_eq_false_iff] at h
            have h2 := of_decide_eq_false h.2
            have h3 := sumL_one hkm (List.getElem?_eq_some_iff.1 hkm).1
            have h4 := hsum.out
            omega⟩⟩
end Go.Proofs.Ytnbhgeodbpelgaa
