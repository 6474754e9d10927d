/- More words for the walks: lists of counts as ints, the element types' rows of the table. No conditions. -/
import Derived.Test.YtnbhgeodbpelgaaApp
import Derived.Test.YtnbhgeodbpelgaaRows
namespace Go.Proofs.Ytnbhgeodbpelgaa
open Go.RowKit
set_option linter.unusedVariables false

theorem Try.inf8 : (Try.prog.info? 5).map (fun i => (i.zero, i.size, i.bytes)) = some (some (.int .u8 0), 1, 1) := by kernel_rfl
theorem Try.infI : (Try.prog.info? 3).map (fun i => (i.zero, i.size, i.bytes)) = some (some (.int .i64 0), 1, 8) := by kernel_rfl

theorem ret_b {a b : Bool} (h : a = b) : Ending.returned (.bool a) = Ending.returned (.bool b) := by rw [h]
theorem ret_i {k : IntKind} {a b : Int} (h : a = b) : Ending.returned (.int k a) = Ending.returned (.int k b) := by rw [h]
def n64s (l : List Nat) : List Value := l.map fun n : Nat => Value.int .i64 (n : Int)
theorem n64s_length (l : List Nat) : (n64s l).length = l.length := by simp [n64s]
theorem n64s_get {l : List Nat} {k x : Nat} (h : l[k]? = some x) : (n64s l)[k]? = some (.int .i64 (x : Int)) := by simp [n64s, h]
theorem n64s_app (a b : List Nat) : n64s (a ++ b) = n64s a ++ n64s b := by simp [n64s]
theorem n64s_set (l : List Nat) (k x : Nat) : (n64s l).set k (.int .i64 (x : Int)) = n64s (l.set k x) := by simp [n64s, List.map_set]
theorem made_n64 (n : Nat) : (madeCells (Value.int .i64 0).cells (n * 1)).toList = n64s (List.replicate n 0) := by
  rw [Nat.mul_one]
  show (madeCells #[Value.int .i64 0] n).toList = _
  rw [toList_madeCells_one]; simp [n64s]
/-- A slice that was made, or nil: it holds xs, in a block that is new. -/
def MadeV (w : World) (xs : List Value) (e : Ending) (w' : World) : Prop := ∃ A c, e = .returned (.slice A xs.length c) ∧ Rd w'.heap.size w' A xs ∧ xs.length ≤ c ∧ Below w.heap.size w w'
theorem getD_of {l : List Nat} {k : Nat} (h : k < l.length) : l[k]? = some (l.getD k 0) := by rw [List.getD_eq_getElem?_getD, List.getElem?_eq_getElem h]; rfl
theorem own_on {w w' : World} {base e size n : Nat} {v : Value} {xs : List Value} (h : w.ownsRow base e size v n xs) (hb : Below w.heap.size w w') : w'.ownsRow base e size v n xs := by
  obtain ⟨h1, h2⟩ := h
  refine ⟨h1, ?_⟩
  rcases h2 with h2 | ⟨g, cap, cur, hv, hg, hh, r⟩
  · exact Or.inl h2
  · exact Or.inr ⟨g, cap, cur, hv, hg, (hb.block g (lt_of_block hh)).trans hh, r⟩
/-! ### only one block has turned -/
theorem grown_set {a w : World} {g : Nat} (h : a.grownBy w (some g)) (o : Nat) (u : Value) : a.grownBy (w.setCell ⟨g, o, none⟩ u) (some g) :=
  ⟨h.os, h.tape, h.output, by simpa [World.setCell] using h.size, fun i hi hne => (Below.heap_setCell w ⟨g, o, none⟩ u i (fun e => hne (by rw [e]))).trans (h.block i hi hne)⟩
theorem grown_drew {a w : World} {r : Option Nat} (h : a.grownBy w r) : a.grownBy w.drew r := ⟨h.os, h.tape, h.output, h.size, h.block⟩
theorem grown_drewN {a w : World} {r : Option Nat} (h : a.grownBy w r) (n : Nat) : a.grownBy (w.drewN n) r := ⟨h.os, h.tape, h.output, h.size, h.block⟩
theorem grown_below {a b w : World} {g : Nat} (h : a.grownBy w (some g)) {B : Nat} (hb : Below B b a) (hg : B ≤ g) (hB : B ≤ a.heap.size) : Below B b w := hb.grown h hB (by rintro k e; injection e with e; omega)
theorem own_where {w : World} {base e n c : Nat} {A : Option Addr} {xs : List Value} (h : w.ownsRow base e 1 (.slice A n c) n xs) (hn : 0 < n) : ∃ g, A = some ⟨g, 0, none⟩ ∧ base ≤ g ∧ g < w.heap.size := by
  obtain ⟨g, cap, hv, hb, hlt⟩ := h.form hn
  injection hv with hA
  exact ⟨g, hA, hb, hlt⟩
/-- A literal slice: its block has just been laid. -/
theorem rd_lit (w : World) (cs : List Value) (t : TypeId) : Rd (w.heap.size + 1) (w.alloc (.cells cs.toArray t)) (some ⟨w.heap.size, 0, none⟩) cs := fun _ => by
  refine ⟨w.heap.size, 0, rfl, by omega, fun j u hu => ?_⟩
  rw [Nat.zero_add, cell_of_row _ _ _ cs.toArray t (0, 0) (heap_alloc_new w _)]
  simpa using hu
end Go.Proofs.Ytnbhgeodbpelgaa
