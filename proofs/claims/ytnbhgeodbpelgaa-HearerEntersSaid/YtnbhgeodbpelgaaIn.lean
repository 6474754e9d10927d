/- What a law is told of slices of numbers that came in, out of the row's own reading of them. No conditions. -/
import Derived.Test.YtnbhgeodbpelgaaBase
import Derived.Test.YtnbhgeodbpelgaaRows
import Derived.SizedLaws
namespace Go.Proofs.Ytnbhgeodbpelgaa
open Go.ChangeShapes Go.WideShapes Go.ChangeAt Go.RowKit

/-- A slice of bytes that came in: at address a, with the list l, of capacity c. -/
structure In8 (w : World) (a : Option Addr) (c : Nat) (l : List Nat) : Prop where
  rd : Rd w.heap.size w a (u8s l)
  reach : l.length ≤ 140737488355328
  byt : Byt l
  cap : l.length ≤ c
  max : c ≤ 9223372036854775807
structure InI (w : World) (a : Option Addr) (c : Nat) (l : List Int) : Prop where
  rd : Rd w.heap.size w a (i64s l)
  reach : l.length ≤ 17592186044416
  fits : ∀ x ∈ l, -9223372036854775808 ≤ x ∧ x ≤ 9223372036854775807
  cap : l.length ≤ c
  max : c ≤ 9223372036854775807
structure InU (w : World) (a : Option Addr) (c : Nat) (l : List Nat) : Prop where
  rd : Rd w.heap.size w a (u64s l)
  reach : l.length ≤ 17592186044416
  fits : ∀ x ∈ l, x < 18446744073709551616
  cap : l.length ≤ c
  max : c ≤ 9223372036854775807
theorem In8.len {w : World} {a : Option Addr} {c : Nat} {l : List Nat} (h : In8 w a c l) : l.length ≤ 9223372036854775807 := Nat.le_trans h.cap h.max
theorem InI.len {w : World} {a : Option Addr} {c : Nat} {l : List Int} (h : InI w a c l) : l.length ≤ 9223372036854775807 := Nat.le_trans h.cap h.max
theorem InU.len {w : World} {a : Option Addr} {c : Nat} {l : List Nat} (h : InU w a c l) : l.length ≤ 9223372036854775807 := Nat.le_trans h.cap h.max

section
variable {H : Type} {enc : TypeId × Value → H} {P : Program} {w : World} {base : Nat} {spare : Nat → Bool} {held : Bool}
/-- What a slice's datum says of its length. -/
def LenOf (d : DataW H) (n : Nat) : Prop := n = 0 ∨ ∃ es sp : List (DataW H), d = .slice es sp ∧ n ≤ es.length + sp.length
theorem reach_of {P : Program} {ts : List TypeId} {ds : List (DataW H)} {d : DataW H} {n : Nat} (hd : LenOf d n) (h : (DataW.weightsEach P ts ds).all (· ≤ reachBytes) = true) (j : Nat) {t e : TypeId} (ht : ts[j]? = some t) (hj : ds[j]? = some d) (hu : P.underlying t = some (.slice e)) (b : Nat) (hb : P.bytesOf e = b) :
    n * b ≤ 140737488351232 := by
  rcases hd with rfl | ⟨es, sp, rfl, hn⟩
  · omega
  · have := sized_slice h ht hj hu
    rw [hb] at this
    have h2 := Nat.mul_le_mul_right b hn
    have h3 : reachBytes = 140737488351232 := rfl
    omega
theorem open_row {t e : TypeId} {k : IntKind} {fuel : Nat} {a : Option Addr} {len cap : Nat} {x : DataW H × List MemPlace} (ht : P.underlying t = some (.slice e)) (he : P.underlying e = some (.int k)) (hc : P.cellsOf e = 1)
    (h : DataW.trod enc P w base spare held fuel t [.slice a len cap] = some x) :
    ∃ l : List Int, len = l.length ∧ l.length ≤ cap ∧ cap ≤ 9223372036854775807 ∧ (∀ n ∈ l, (Lit.int k n).wf = true) ∧ Rd w.heap.size w a (l.map (Value.int k)) ∧ LenOf x.1 l.length := by
  rcases open_ints ht he hc h with ⟨hcs, _⟩ | ⟨y, l, c, zs, hcs, _, hl, hm, hz, hx, hcell, hwz⟩
  · simp at hcs
    obtain ⟨rfl, rfl, rfl⟩ := hcs
    exact ⟨[], rfl, Nat.le_refl _, by omega, by simp, Rd.nil _ _ _, .inl rfl⟩
  · simp at hcs
    obtain ⟨rfl, rfl, rfl⟩ := hcs
    have hlz : len ≤ zs.length := by rw [hz]; split <;> omega
    have hlen : (zs.take len).length = len := by rw [List.length_take]; omega
    refine ⟨zs.take len, hlen.symm, by omega, by unfold maxLen at hm; exact hm, fun n hn => hwz n (List.mem_of_mem_take hn), fun hpos => ?_, .inr ⟨_, _, by rw [hx], by simp [lits]⟩⟩
    have hp : 0 < len := by rw [List.length_map, hlen] at hpos; exact hpos
    have h0 := hcell 0 (by omega)
    have hsp : y.spot = none := by simpa [Addr.add] using World.cell?_spot h0
    obtain ⟨b, o, s⟩ := y
    simp only at hsp
    subst hsp
    refine ⟨b, o, rfl, ?_, fun j u hu => ?_⟩
    · have := World.block_lt_of_cell? w _ h0
      simpa [Addr.add] using this
    · rw [List.getElem?_map] at hu
      obtain ⟨n, hn, rfl⟩ := Option.map_eq_some_iff.1 hu
      have hj : j < len := by have := (List.getElem?_eq_some_iff.1 hn).1; omega
      have hc := hcell j (by omega)
      have e : (⟨b, o, none⟩ : Addr).add j = ⟨b, o + j, none⟩ := by unfold Addr.add; split <;> simp_all
      rw [e] at hc
      rw [hc]
      rw [List.getElem?_take, if_pos hj] at hn
      simp [List.getD_eq_getElem?_getD, hn]
theorem open_u8 {ts : List TypeId} {ds : List (DataW H)} {t e : TypeId} {a : Option Addr} {len cap : Nat} {d : DataW H} {p : List MemPlace} (ht : P.underlying t = some (.slice e)) (he : P.underlying e = some (.int .u8)) (hc : P.cellsOf e = 1)
    (h : DataW.Trod enc P w base spare held t (.slice a len cap) d p)
    (hsz : (DataW.weightsEach P ts ds).all (· ≤ reachBytes) = true) (j : Nat) (hj : ts[j]? = some t) (hj' : ds[j]? = some d) (hb8 : P.bytesOf e = 1) : ∃ l : List Nat, len = l.length ∧ In8 w a cap l := by
  obtain ⟨fuel, hf⟩ := h
  obtain ⟨l, rfl, hcap, hmax, hwf, hrd, hlo⟩ := open_row ht he hc (by simpa [Value.cells] using hf)
  have hre := reach_of hlo hsz j hj hj' ht _ hb8
  have hb : ∀ n ∈ l, 0 ≤ n ∧ n ≤ 255 := fun n hn => bounds_u8 (hwf n hn)
  have hm : u8s (l.map Int.toNat) = l.map (Value.int .u8) := by
    unfold u8s
    rw [List.map_map]
    apply List.map_congr_left
    intro n hn
    have := hb n hn
    simp only [Function.comp]
    congr 1; omega
  refine ⟨l.map Int.toNat, by simp, ⟨by rw [hm]; exact hrd, by simp; omega, ?_, by simpa using hcap, hmax⟩⟩
  intro x hx
  obtain ⟨n, hn, rfl⟩ := List.mem_map.1 hx
  have := hb n hn
  omega
theorem open_u64 {ts : List TypeId} {ds : List (DataW H)} {t e : TypeId} {a : Option Addr} {len cap : Nat} {d : DataW H} {p : List MemPlace} (ht : P.underlying t = some (.slice e)) (he : P.underlying e = some (.int .u64)) (hc : P.cellsOf e = 1)
    (h : DataW.Trod enc P w base spare held t (.slice a len cap) d p)
    (hsz : (DataW.weightsEach P ts ds).all (· ≤ reachBytes) = true) (j : Nat) (hj : ts[j]? = some t) (hj' : ds[j]? = some d) (hb8 : P.bytesOf e = 8) : ∃ l : List Nat, len = l.length ∧ InU w a cap l := by
  obtain ⟨fuel, hf⟩ := h
  obtain ⟨l, rfl, hcap, hmax, hwf, hrd, hlo⟩ := open_row ht he hc (by simpa [Value.cells] using hf)
  have hre := reach_of hlo hsz j hj hj' ht _ hb8
  have hb : ∀ n ∈ l, 0 ≤ n ∧ n ≤ 18446744073709551615 := fun n hn => bounds_u64 (hwf n hn)
  have hm : u64s (l.map Int.toNat) = l.map (Value.int .u64) := by
    unfold u64s
    rw [List.map_map]
    apply List.map_congr_left
    intro n hn
    have := hb n hn
    simp only [Function.comp]
    congr 1; omega
  refine ⟨l.map Int.toNat, by simp, ⟨by rw [hm]; exact hrd, by simp; omega, ?_, by simpa using hcap, hmax⟩⟩
  intro x hx
  obtain ⟨n, hn, rfl⟩ := List.mem_map.1 hx
  have := hb n hn
  omega
theorem open_i64 {ts : List TypeId} {ds : List (DataW H)} {t e : TypeId} {a : Option Addr} {len cap : Nat} {d : DataW H} {p : List MemPlace} (ht : P.underlying t = some (.slice e)) (he : P.underlying e = some (.int .i64)) (hc : P.cellsOf e = 1)
    (h : DataW.Trod enc P w base spare held t (.slice a len cap) d p)
    (hsz : (DataW.weightsEach P ts ds).all (· ≤ reachBytes) = true) (j : Nat) (hj : ts[j]? = some t) (hj' : ds[j]? = some d) (hb8 : P.bytesOf e = 8) : ∃ l : List Int, len = l.length ∧ InI w a cap l := by
  obtain ⟨fuel, hf⟩ := h
  obtain ⟨l, rfl, hcap, hmax, hwf, hrd, hlo⟩ := open_row ht he hc (by simpa [Value.cells] using hf)
  have hre := reach_of hlo hsz j hj hj' ht _ hb8
  exact ⟨l, rfl, ⟨hrd, by omega, fun n hn => bounds_i64 (hwf n hn), hcap, hmax⟩⟩
end
end Go.Proofs.Ytnbhgeodbpelgaa
