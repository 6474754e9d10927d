/- What a law is told of slices of structs that came in, out of the row's own reading of them: the rows. No conditions. -/
import Derived.Test.YtnbhgeodbpelgaaIn
import Derived.Deep.Strs
import Derived.Deep.Slices
namespace Go.Proofs.Ytnbhgeodbpelgaa
open Go.ChangeShapes Go.WideShapes Go.ChangeAt Go.RowKit Go.Deep
set_option linter.unusedVariables false

theorem choose_list {α β : Type} {R : α → β → Prop} : ∀ (L : List α), (∀ x ∈ L, ∃ y, R x y) → ∃ M : List β, M.length = L.length ∧ ∀ (i : Nat) x, L[i]? = some x → ∃ y, M[i]? = some y ∧ R x y
  | [], _ => ⟨[], rfl, fun i x h => by simp at h⟩
  | a :: L, h => by
    obtain ⟨y, hy⟩ := h a (by simp)
    obtain ⟨M, hM, hR⟩ := choose_list L fun x hx => h x (by simp [hx])
    refine ⟨y :: M, by simp [hM], fun i x hx => ?_⟩
    cases i with
    | zero => simp at hx; subst hx; exact ⟨y, rfl, hy⟩
    | succ i => simp at hx; exact hR i x hx
/-- The slice at A holds rows of sz cells each. -/
def RdN (sz B : Nat) (w : World) (A : Option Addr) (L : List (List Value)) : Prop :=
  0 < L.length → ∃ b o, A = some ⟨b, o, none⟩ ∧ b < B ∧ ∀ (i : Nat) cs (j : Nat) u, L[i]? = some cs → cs[j]? = some u → w.cell? ⟨b, o + i * sz + j, none⟩ = some u
section
variable {H : Type} {enc : TypeId × Value → H} {P : Program} {w : World} {base : Nat} {spare : Nat → Bool} {held : Bool}
theorem slice_of {t e : TypeId} {fuel : Nat} {cs : List Value} {x : DataW H × List MemPlace} (ht : P.underlying t = some (.slice e)) (h : DataW.trod enc P w base spare held fuel t cs = some x) : ∃ a len cap, cs = [.slice a len cap] := by
  rcases open_slice ht h with ⟨rfl, _⟩ | ⟨a, len, cap, m, n, D, Pl, rfl, _⟩
  · exact ⟨none, 0, 0, rfl⟩
  · exact ⟨some a, len, cap, rfl⟩
/-- a field of bytes. -/
def FB (w : World) (u : Value) (m : List Nat) : Prop := ∃ a c, u = .slice a m.length c ∧ Rd w.heap.size w a (u8s m) ∧ Byt m ∧ m.length ≤ 9223372036854775807
theorem field_bytes {t e : TypeId} {fuel : Nat} {cs : List Value} {x : DataW H × List MemPlace} (ht : P.underlying t = some (.slice e)) (he : P.underlying e = some (.int .u8)) (hc : P.cellsOf e = 1)
    (h : DataW.trod enc P w base spare held fuel t cs = some x) : ∃ u m, cs = [u] ∧ FB w u m := by
  obtain ⟨a, len, cap, rfl⟩ := slice_of ht h
  obtain ⟨l, rfl, hcap, hmax, hwf, hrd, _⟩ := open_row ht he hc h
  have hb : ∀ n ∈ l, 0 ≤ n ∧ n ≤ 255 := fun n hn => bounds_u8 (hwf n hn)
  have hm : u8s (l.map Int.toNat) = l.map (Value.int .u8) := by
    unfold u8s
    rw [List.map_map]
    apply List.map_congr_left
    intro n hn
    have := hb n hn
    simp only [Function.comp]
    congr 1; omega
  refine ⟨_, l.map Int.toNat, rfl, a, cap, by simp, by rw [hm]; exact hrd, ?_, by simp; omega⟩
  intro x hx
  obtain ⟨n, hn, rfl⟩ := List.mem_map.1 hx
  have := hb n hn
  omega
theorem field_int {t : TypeId} {fuel : Nat} {cs : List Value} {x : DataW H × List MemPlace} (ht : P.underlying t = some (.int .i64)) (h : DataW.trod enc P w base spare held fuel t cs = some x) : ∃ n : Int, cs = [.int .i64 n] ∧ Fit n := by
  obtain ⟨n, rfl, _, hw⟩ := DataW.trod_int ht h
  exact ⟨n, rfl, bounds_i64 hw⟩
theorem field_u64 {t : TypeId} {fuel : Nat} {cs : List Value} {x : DataW H × List MemPlace} (ht : P.underlying t = some (.int .u64)) (h : DataW.trod enc P w base spare held fuel t cs = some x) : ∃ n : Nat, cs = [.int .u64 (n : Int)] ∧ n < 18446744073709551616 := by
  obtain ⟨n, rfl, _, hw⟩ := DataW.trod_int ht h
  have := bounds_u64 hw
  obtain ⟨k, rfl⟩ := Int.eq_ofNat_of_zero_le this.1
  exact ⟨k, rfl, by omega⟩
theorem field_bool {t : TypeId} {fuel : Nat} {cs : List Value} {x : DataW H × List MemPlace} (ht : P.underlying t = some .bool) (h : DataW.trod enc P w base spare held fuel t cs = some x) : ∃ b : Bool, cs = [.bool b] := by
  obtain ⟨b, rfl, _⟩ := DataW.trod_bool ht h
  exact ⟨b, rfl⟩
theorem open_rows {t e : TypeId} {sz fuel : Nat} {a : Option Addr} {len cap : Nat} {x : DataW H × List MemPlace} {Q : List Value → Prop} (ht : P.underlying t = some (.slice e)) (hc : P.cellsOf e = sz) (hpos : 0 < sz)
    (h : DataW.trod enc P w base spare held fuel t [.slice a len cap] = some x) (hQ : ∀ n cs y, DataW.trod enc P w base spare held n e cs = some y → Q cs) :
    ∃ L : List (List Value), len = L.length ∧ L.length ≤ cap ∧ cap ≤ 9223372036854775807 ∧ (∀ cs ∈ L, Q cs) ∧ RdN sz w.heap.size w a L := by
  rcases open_slice ht h with ⟨hcs, _⟩ | ⟨y, l, c, m, n, D, Pl, hcs, _, hl, hm, hmm, _, hx⟩
  · simp at hcs
    obtain ⟨rfl, rfl, rfl⟩ := hcs
    exact ⟨[], rfl, Nat.le_refl _, by omega, by simp, fun h => absurd h (by simp)⟩
  · simp at hcs
    obtain ⟨rfl, rfl, rfl⟩ := hcs
    have hlm : len ≤ m := by rw [hmm]; split <;> omega
    rw [hc] at hx
    obtain ⟨f, hf⟩ := choose_lt (α := List Value) (p := fun i cs => w.cells? base (y.add (i * sz)) sz = some cs ∧ DataW.trod enc P w base spare held n e cs = some (D i, Pl i)) hx
    refine ⟨(List.range len).map f, by simp, by simp; omega, by unfold maxLen at hm; exact hm, ?_, fun hp => ?_⟩
    · intro cs hcs
      obtain ⟨i, hi, rfl⟩ := List.mem_map.1 hcs
      exact hQ n _ _ (hf i (by simp at hi; omega)).2
    · have hp : 0 < len := by simpa using hp
      have h0 := World.cells?_some (hf 0 (by omega)).1
      have hcell0 := h0.2.2 0 hpos
      have hsome : (f 0)[0]? = some (f 0)[0] := List.getElem?_eq_getElem (by rw [h0.2.1]; exact hpos)
      rw [hsome] at hcell0
      have hsp : y.spot = none := by simpa [Addr.add] using World.cell?_spot hcell0
      have hlt : y.block < w.heap.size := by
        have := World.block_lt_of_cell? w _ hcell0
        simpa [Addr.add] using this
      obtain ⟨b, o, s⟩ := y
      simp only at hsp hlt
      subst hsp
      refine ⟨b, o, rfl, hlt, fun i cs j u hi hj => ?_⟩
      rw [List.getElem?_map] at hi
      obtain ⟨k, hk, rfl⟩ := Option.map_eq_some_iff.1 hi
      have hik : k = i ∧ i < len := by
        have h1 := (List.getElem?_eq_some_iff.1 hk)
        obtain ⟨h2, h3⟩ := h1
        simp at h2 h3
        omega
      obtain ⟨rfl, hil⟩ := hik
      have hc1 := World.cells?_some (hf k (by omega)).1
      have hjl : j < sz := by rw [← hc1.2.1]; exact (List.getElem?_eq_some_iff.1 hj).1
      have := hc1.2.2 j hjl
      rw [hj] at this
      have e : ((⟨b, o, none⟩ : Addr).add (k * sz)).add j = ⟨b, o + k * sz + j, none⟩ := by rw [Go.Deep.add_add]; unfold Addr.add; split <;> simp_all <;> omega
      rwa [e] at this
end
end Go.Proofs.Ytnbhgeodbpelgaa
