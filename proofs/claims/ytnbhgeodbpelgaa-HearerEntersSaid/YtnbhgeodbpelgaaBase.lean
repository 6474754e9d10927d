/- Words and small lemmas over the model's memory that this family's walks share: a slice that reads as a list, rows that the call made, bits of numbers. No conditions. -/
import Derived.WalkKit
import Derived.ProofKit
import Derived.Handy
import Derived.OpenShut
import Derived.ChangeOld
import Derived.Below
import Derived.WalkSmall
import Derived.WalkLawsBesides
import Derived.WalkSpells
import Derived.Maps.AppendAt
import Derived.Deep.AppendLies
import Derived.Deep.QuietTactic
import Derived.BigQuiet
import Derived.Laws.BitsAllLaws
import Derived.Laws.BitsLemmas
namespace Go.Proofs.Ytnbhgeodbpelgaa
open Go.RowKit

/-- A fact kept from the walk's rewriting. -/
theorem hide {p : Prop} (h : p) : Hid p := h

/-! ### a slice that reads as a list of one-cell values -/

/-- The slice at address A holds the values xs, in a block below B. -/
def Rd (B : Nat) (w : World) (A : Option Addr) (xs : List Value) : Prop :=
  0 < xs.length → ∃ b o, A = some ⟨b, o, none⟩ ∧ b < B ∧ ∀ j u, xs[j]? = some u → w.cell? ⟨b, o + j, none⟩ = some u

theorem Rd.nil (B : Nat) (w : World) (A : Option Addr) : Rd B w A [] := fun h => absurd h (by simp)
theorem Rd.keep {B B' : Nat} {w w' : World} {A : Option Addr} {xs : List Value} (h : Rd B w A xs) (hB : B ≤ B') (hk : ∀ p : Addr, p.block < B → w'.cell? p = w.cell? p) : Rd B' w' A xs := fun hn => by
  obtain ⟨b, o, hA, hb, hc⟩ := h hn
  exact ⟨b, o, hA, by omega, fun j u hu => (hk _ hb).trans (hc j u hu)⟩
theorem Rd.below {B K : Nat} {w w' : World} {A : Option Addr} {xs : List Value} (h : Rd B w A xs) (hb : Below K w w') (hK : B ≤ K) : Rd B w' A xs :=
  h.keep (Nat.le_refl _) fun p hp => hb.cell (by omega)
theorem Rd.more {B B' : Nat} {w : World} {A : Option Addr} {xs : List Value} (h : Rd B w A xs) (hB : B ≤ B') : Rd B' w A xs := h.keep hB fun _ _ => rfl
theorem Rd.drewN {B : Nat} {w : World} {A : Option Addr} {xs : List Value} (h : Rd B w A xs) (n : Nat) : Rd B (w.drewN n) A xs := h
theorem Rd.drew {B : Nat} {w : World} {A : Option Addr} {xs : List Value} (h : Rd B w A xs) : Rd B w.drew A xs := h
/-- Element k, under its condition: where the slice lies, and what its cell holds. -/
theorem Rd.at_ {B : Nat} {w : World} {A : Option Addr} {xs : List Value} (h : Rd B w A xs) {k : Nat} {u : Value} (hk : xs[k]? = some u) :
    ∃ b o, A = some ⟨b, o, none⟩ ∧ b < B ∧ w.cell? ⟨b, o + k, none⟩ = some u := by
  have hl : k < xs.length := (List.getElem?_eq_some_iff.1 hk).1
  obtain ⟨b, o, hA, hb, hc⟩ := h (by omega)
  exact ⟨b, o, hA, hb, hc k u hk⟩

/-! ### what the call owns -/
theorem own_rd {w : World} {base e c : Nat} {A : Option Addr} {n : Nat} {xs : List Value} (h : w.ownsRow base e 1 (.slice A n c) n xs) : Rd w.heap.size w A xs := fun hn => by
  have hl := h.1
  obtain ⟨g, cap, hv, _, hlt⟩ := h.form (by omega)
  injection hv with hA
  subst hA
  refine ⟨g, 0, rfl, hlt, fun j u hu => ?_⟩
  have := h.cells (g := g) rfl j u hu
  have e : (⟨g, 0, none⟩ : Addr).add j = ⟨g, 0 + j, none⟩ := by unfold Addr.add; split <;> simp_all
  rwa [e] at this
theorem own_val {w : World} {base e : Nat} {v : Value} {n : Nat} {xs : List Value} (h : w.ownsRow base e 1 v n xs) : ∃ A c, v = .slice A n c ∧ n ≤ c := by
  rcases h.2 with ⟨rfl, rfl⟩ | ⟨g, cap, cur, rfl, _, _, hc, _⟩
  · exact ⟨none, 0, rfl, Nat.le_refl _⟩
  · exact ⟨_, cap, rfl, hc⟩

/-- Two steps, each of which leaves what was there at its beginning. -/
theorem below2 {B : Nat} {a b c : World} (h : Below B a b) (k : Below b.heap.size b c) (hB : B ≤ a.heap.size) : Below B a c := h.trans (k.mono (Nat.le_trans hB h.size))
theorem Rd.on {w w' : World} {A : Option Addr} {xs : List Value} (h : Rd w.heap.size w A xs) (hb : Below w.heap.size w w') : Rd w'.heap.size w' A xs := (h.below hb (Nat.le_refl _)).more hb.size

/-- A new slice of one-cell values: 'v' has the list xs, lies in the call's own blocks (from B on); below B nothing has turned. -/
def New (B : Nat) (e : Nat) (w : World) (v : Value) (xs : List Value) (w' : World) : Prop :=
  w'.ownsRow B e 1 v xs.length xs ∧ Below B w w'

theorem own_more {w : World} {base base' e n : Nat} {v : Value} {xs : List Value} (h : w.ownsRow base e 1 v n xs) (hb : base' ≤ base) : w.ownsRow base' e 1 v n xs := by
  obtain ⟨h1, h2⟩ := h
  refine ⟨h1, ?_⟩
  rcases h2 with h2 | ⟨g, cap, cur, hv, hg, r⟩
  · exact Or.inl h2
  · exact Or.inr ⟨g, cap, cur, hv, Nat.le_trans hb hg, r⟩

/-- A number that an int holds. -/
abbrev Fit (a : Int) : Prop := -9223372036854775808 ≤ a ∧ a ≤ 9223372036854775807

/-! ### lists of numbers as cells -/
def u8s (l : List Nat) : List Value := l.map fun n : Nat => Value.int .u8 (n : Int)
def u64s (l : List Nat) : List Value := l.map fun n : Nat => Value.int .u64 (n : Int)
def i64s (l : List Int) : List Value := l.map fun n => Value.int .i64 n
theorem u8s_length (l : List Nat) : (u8s l).length = l.length := by simp [u8s]
theorem u64s_length (l : List Nat) : (u64s l).length = l.length := by simp [u64s]
theorem i64s_length (l : List Int) : (i64s l).length = l.length := by simp [i64s]
theorem u8s_get {l : List Nat} {k x : Nat} (h : l[k]? = some x) : (u8s l)[k]? = some (.int .u8 (x : Int)) := by simp [u8s, h]
theorem u64s_get {l : List Nat} {k x : Nat} (h : l[k]? = some x) : (u64s l)[k]? = some (.int .u64 (x : Int)) := by simp [u64s, h]
theorem i64s_get {l : List Int} {k : Nat} {x : Int} (h : l[k]? = some x) : (i64s l)[k]? = some (.int .i64 x) := by simp [i64s, h]
theorem u8s_app (a b : List Nat) : u8s (a ++ b) = u8s a ++ u8s b := by simp [u8s]
theorem u64s_app (a b : List Nat) : u64s (a ++ b) = u64s a ++ u64s b := by simp [u64s]
theorem i64s_app (a b : List Int) : i64s (a ++ b) = i64s a ++ i64s b := by simp [i64s]
theorem u8s_one (l : List Nat) : ∀ u ∈ u8s l, u.oneCell' = true := by
  intro u hu
  simp only [u8s, List.mem_map] at hu
  obtain ⟨n, _, rfl⟩ := hu
  rfl
/-- All are bytes. -/
def Byt (l : List Nat) : Prop := ∀ x ∈ l, x < 256
theorem Byt.at_ {l : List Nat} (h : Byt l) {k x : Nat} (hk : l[k]? = some x) : x < 256 := h x (List.mem_of_getElem? hk)

/-! ### bits of numbers that are not below 0, at int -/
theorem ofInt64 (a : Nat) (ha : a < 9223372036854775808) : (BitVec.ofInt 64 (a : Int)).toNat = a := by
  rw [BitVec.ofInt_natCast, BitVec.toNat_ofNat]
  exact Nat.mod_eq_of_lt (by omega)
theorem i64_wrap_nat (a : Nat) (ha : a < 9223372036854775808) : IntKind.i64.wrap (a : Int) = a := by rw [IntKind.wrap_i64]; omega
theorem and64 (a b : Nat) (ha : a < 9223372036854775808) (hb : b < 9223372036854775808) : bits .and .i64 (a : Int) (b : Int) = ((a &&& b : Nat) : Int) := by
  show IntKind.i64.wrap ((BitVec.ofInt 64 (a : Int) &&& BitVec.ofInt 64 (b : Int)).toNat : Int) = _
  rw [BitVec.toNat_and, ofInt64 a ha, ofInt64 b hb]
  exact i64_wrap_nat _ (Nat.lt_of_le_of_lt Nat.and_le_left ha)
theorem or64 (a b : Nat) (ha : a < 9223372036854775808) (hb : b < 9223372036854775808) : bits .or .i64 (a : Int) (b : Int) = ((a ||| b : Nat) : Int) := by
  show IntKind.i64.wrap ((BitVec.ofInt 64 (a : Int) ||| BitVec.ofInt 64 (b : Int)).toNat : Int) = _
  rw [BitVec.toNat_or, ofInt64 a ha, ofInt64 b hb]
  exact i64_wrap_nat _ (Nat.or_lt_two_pow (n := 63) (by omega) (by omega))
theorem xor64 (a b : Nat) (ha : a < 9223372036854775808) (hb : b < 9223372036854775808) : bits .xor .i64 (a : Int) (b : Int) = ((a ^^^ b : Nat) : Int) := by
  show IntKind.i64.wrap ((BitVec.ofInt 64 (a : Int) ^^^ BitVec.ofInt 64 (b : Int)).toNat : Int) = _
  rw [BitVec.toNat_xor, ofInt64 a ha, ofInt64 b hb]
  exact i64_wrap_nat _ (Nat.xor_lt_two_pow (n := 63) (by omega) (by omega))

/-! ### append of one value to a row of the call's own -/
section
variable {P : Program} {ops : Array Oper} {rest : List Oper} {o : Oper} {a : Act} {Q : Exit → Act → World → Prop}

/-- 'append(v, u)': u has just been laid in a new block; behind it v' holds xs and u. -/
theorem run_app1 (w : World) (t ty : TypeId) (base e : Nat) (i : TypeInfo) (z : Value) (bytes : Nat) (ht : P.underlying t = some (.slice e)) (hi : P.info? e = some i) (hz : i.zero = some z)
    (hsize : i.size = 1) (hby : i.bytes = bytes) (hzs : z.cells.size = 1) (v : Value) (n : Nat) (xs : List Value) (hown : w.ownsRow base e 1 v n xs) (u : Value) (hu : u.oneCell' = true)
    (h63 : n + 1 ≤ 9223372036854775807) (hb : (n + 1) * bytes ≤ 140737488355328) (hbase : base ≤ w.heap.size) :
    ∃ v' w', (Builtin.append_ #[t, t] ty #[v, .slice (some ⟨w.heap.size, 0, none⟩) 1 1]).run P (w.alloc (.cells #[u] e)) = .ok v' w' ∧ w'.ownsRow base e 1 v' (n + 1) (xs ++ [u]) ∧ w.grownBy w' v.ownBlock ∧
      (v'.ownBlock = v.ownBlock ∨ v'.ownBlock = some (w.heap.size + 1)) := by
  obtain ⟨v', w', hrun, h2, h3, _, h5⟩ := run_append_own_at (P := P) (w.alloc (.cells #[u] e)) base t ty e i z 1 bytes ht hi hz hsize hby hzs (by decide) v n xs (hown.alloc _) ⟨w.heap.size, 0, none⟩ 1 1 [u] rfl
    (cell_one_new w u e) (by intro y hy; simp at hy; subst hy; exact hu) (by unfold maxLen; exact h63) hb (by simp; omega)
  refine ⟨v', w', hrun, h2, (World.grownBy_alloc w _ _).trans h3, ?_⟩
  simpa using h5

theorem wpList_app1 (w : World) (hgd : o.guard = none) (s x : Operand) (t : TypeId)
    (ho : o.op = .call { callee := .builtin .append, args := #[s, x], argTypes := #[t, t] })
    (base e : Nat) (i : TypeInfo) (z : Value) (bytes : Nat) (ht : P.underlying t = some (.slice e)) (hi : P.info? e = some i) (hz : i.zero = some z)
    (hsize : i.size = 1) (hby : i.bytes = bytes) (hzs : z.cells.size = 1) (v : Value) (n : Nat) (xs : List Value) (hs : a.eval s = v) (hown : w.ownsRow base e 1 v n xs) (u : Value) (hu : u.oneCell' = true)
    (hx : a.eval x = .slice (some ⟨w.heap.size, 0, none⟩) 1 1)
    (h63 : n + 1 ≤ 9223372036854775807) (hb : (n + 1) * bytes ≤ 140737488355328) (hbase : base ≤ w.heap.size)
    (h : ∀ v' w', w'.ownsRow base e 1 v' (n + 1) (xs ++ [u]) → w.grownBy w' v.ownBlock → (v'.ownBlock = v.ownBlock ∨ v'.ownBlock = some (w.heap.size + 1)) → wpList P ops Q rest (a.put o.dst v') w') :
    wpList P ops Q (o :: rest) a (w.alloc (.cells #[u] e)) := by
  obtain ⟨v', w', hrun, h2, h3, h5⟩ := run_app1 (P := P) w t o.type base e i z bytes ht hi hz hsize hby hzs v n xs hown u hu h63 hb hbase
  refine wpList_plain hgd fun K hK => ?_
  unfold Oper.wp execOp
  simp only [ho, resolve, invoke, builtin, Sem.run_bind, Sem.run_pure, Result.andThen_ok, List.map_toArray, List.map_cons, List.map_nil, hs, hx, hrun]
  exact hK _ _ (h v' w' h2 h3 h5)

theorem step_app1 {E : Prop} {K : Act → World → Prop} (w : World) (hgd : o.guard = none) (s x : Operand) (t : TypeId)
    (ho : o.op = .call { callee := .builtin .append, args := #[s, x], argTypes := #[t, t] })
    (base e : Nat) (i : TypeInfo) (z : Value) (bytes : Nat) (ht : P.underlying t = some (.slice e)) (hi : P.info? e = some i) (hz : i.zero = some z)
    (hsize : i.size = 1) (hby : i.bytes = bytes) (hzs : z.cells.size = 1) (v : Value) (n : Nat) (xs : List Value) (hs : a.eval s = v) (hown : w.ownsRow base e 1 v n xs) (u : Value) (hu : u.oneCell' = true)
    (hx : a.eval x = .slice (some ⟨w.heap.size, 0, none⟩) 1 1)
    (h63 : n + 1 ≤ 9223372036854775807) (hb : (n + 1) * bytes ≤ 140737488355328) (hbase : base ≤ w.heap.size)
    (h : ∀ v' w', w'.ownsRow base e 1 v' (n + 1) (xs ++ [u]) → w.grownBy w' v.ownBlock → (v'.ownBlock = v.ownBlock ∨ v'.ownBlock = some (w.heap.size + 1)) → K (a.put o.dst v') w') :
    if Region.wanted o (yielded ops a.tmps) = true then Oper.wp P o a (w.alloc (.cells #[u] e)) K Q else E := by
  have hw : Region.wanted o (yielded ops a.tmps) = true := by simp [Region.wanted, hgd]
  rw [if_pos hw]
  obtain ⟨v', w', hrun, h2, h3, h5⟩ := run_app1 (P := P) w t o.type base e i z bytes ht hi hz hsize hby hzs v n xs hown u hu h63 hb hbase
  unfold Oper.wp execOp
  simp only [ho, resolve, invoke, builtin, Sem.run_bind, Sem.run_pure, Result.andThen_ok, List.map_toArray, List.map_cons, List.map_nil, hs, hx, hrun]
  exact h v' w' h2 h3 h5
end

/-- Behind such an append nothing below B has turned. -/
theorem below_app {B e n : Nat} {a w w' : World} {v : Value} {xs : List Value} (hb : Below B a w) (hown : w.ownsRow B e 1 v n xs) (hg : w.grownBy w' v.ownBlock) (hB : B ≤ w.heap.size) : Below B a w' :=
  hb.grown hg hB fun k hk => (hown.lt k hk).1

/-- Two cells below B, behind such an append. -/
theorem keep2 {B : Nat} {w w' : World} (h : Below B w w') {p q : Addr} (hp : p.block < B) (hq : q.block < B) {u v : Value} (hu : w.cell? p = some u) (hv : w.cell? q = some v) : w'.cell? p = some u ∧ w'.cell? q = some v :=
  ⟨(h.cell hp).trans hu, (h.cell hq).trans hv⟩
theorem keep1 {B : Nat} {w w' : World} (h : Below B w w') {p : Addr} (hp : p.block < B) {u : Value} (hu : w.cell? p = some u) : w'.cell? p = some u := (h.cell hp).trans hu

/-! ### a row of the call's own, written in place -/
theorem own_store {w : World} {B e g n c : Nat} {xs : List Value} (h : w.ownsRow B e 1 (.slice (some ⟨g, 0, none⟩) n c) n xs) (k : Nat) (u : Value) :
    (w.setCell ⟨g, k, none⟩ u).ownsRow B e 1 (.slice (some ⟨g, 0, none⟩) n c) n (xs.set k u) := (h.stored k u).1
theorem own_cell {w : World} {B e g n c : Nat} {xs : List Value} (h : w.ownsRow B e 1 (.slice (some ⟨g, 0, none⟩) n c) n xs) {k : Nat} {u : Value} (hk : xs[k]? = some u) : w.cell? ⟨g, k, none⟩ = some u := by
  have hl : k < xs.length := (List.getElem?_eq_some_iff.1 hk).1
  have := h.1
  rw [h.cellAt k (by omega), hk]
theorem own_base {w : World} {B e g n c : Nat} {xs : List Value} (h : w.ownsRow B e 1 (.slice (some ⟨g, 0, none⟩) n c) n xs) : B ≤ g := (h.lt g rfl).1
theorem own_lt {w : World} {B e g n c : Nat} {xs : List Value} (h : w.ownsRow B e 1 (.slice (some ⟨g, 0, none⟩) n c) n xs) : g < w.heap.size := (h.lt g rfl).2
theorem u8s_set (l : List Nat) (k x : Nat) : (u8s l).set k (.int .u8 (x : Int)) = u8s (l.set k x) := by simp [u8s, List.map_set]
theorem u64s_set (l : List Nat) (k x : Nat) : (u64s l).set k (.int .u64 (x : Int)) = u64s (l.set k x) := by simp [u64s, List.map_set]
theorem i64s_set (l : List Int) (k : Nat) (x : Int) : (i64s l).set k (.int .i64 x) = i64s (l.set k x) := by simp [i64s, List.map_set]
/-- A row half written: the first k are done, the rest is what it was at first. -/
theorem set_next {α : Type} (l : List α) (r : List α) (z x : α) : (l ++ z :: r).set l.length x = (l ++ [x]) ++ r := by
  rw [List.set_append_right _ _ (Nat.le_refl _)]; simp
theorem made_u8 (n : Nat) : (madeCells (Value.int .u8 0).cells (n * 1)).toList = u8s (List.replicate n 0) := by
  rw [Nat.mul_one]
  show (madeCells #[Value.int .u8 0] n).toList = _
  rw [toList_madeCells_one]; simp [u8s]
end Go.Proofs.Ytnbhgeodbpelgaa
