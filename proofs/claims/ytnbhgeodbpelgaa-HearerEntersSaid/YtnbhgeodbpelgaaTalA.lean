/- Layer 18's tally: its key, its map, by what is in it. No conditions. -/
import Derived.Test.YtnbhgeodbpelgaaSep
import Derived.Test.YtnbhgeodbpelgaaQueS
import Derived.Maps.OwnSet
import Derived.Maps.Views
import Derived.DeepKeys4
namespace Go.Proofs.Ytnbhgeodbpelgaa
open Go.RowKit Go.Maps
set_option linter.unusedVariables false

/-- string(b), of any length. -/
theorem run_text0 {P : Program} {w : World} {A : Option Addr} {c : Nat} {l : List Nat} {src dst e : TypeId} (hs : P.underlying src = some (.slice e)) (he : P.underlying e = some (.int .u8)) (hd : P.underlying dst = some .string)
    (h : Rd w.heap.size w A (u8s l)) : (convert src dst (.slice A l.length c)).run P w = .ok (.string (strOfNums (l.map fun n : Nat => (n : Int)))) w := by
  cases l with
  | cons x l => exact run_text hs he hd h (by simp)
  | nil =>
    cases A with
    | some a =>
      obtain ⟨b, o, s⟩ := a
      have h0 : (loadCells ⟨b, o, s⟩ 0).run P w = .ok #[] w := run_loadCells_list (P := P) w ⟨b, o, s⟩ [] (fun j v hj => by simp at hj)
      rw [run_convert_bytes_string w src dst e _ _ c hs he hd]
      simp [Conv.bytesToString, h0, Result.andThen, strOfNums]
      rfl
    | none =>
      rw [run_convert_bytes_string w src dst e _ _ c hs he hd]
      simp [Conv.bytesToString, strOfNums]
      rfl
/-- a text's string. -/
def strM (m : List Nat) : ByteArray := strOfNums (m.map fun n : Nat => (n : Int))
theorem strM_size (m : List Nat) : (strM m).size = m.length := by unfold strM; rw [strOfNums_size]; simp
theorem strM_inj {m m' : List Nat} (h : Byt m) (h' : Byt m') (e : strM m = strM m') : m = m' := by
  have e1 : (strM m).data.toList = (strM m').data.toList := by rw [e]
  unfold strM at e1
  rw [strOfNums_data, strOfNums_data] at e1
  simp only [List.map_map] at e1
  have back : ∀ l : List Nat, Byt l → (l.map ((fun n : Int => UInt8.ofNat n.toNat) ∘ fun n : Nat => (n : Int))).map UInt8.toNat = l := by
    intro l hl
    rw [List.map_map]
    conv => rhs; rw [← List.map_id l]
    refine List.map_congr_left (fun x hx => ?_)
    have := hl x hx
    simp
    omega
  rw [← back m h, ← back m' h', e1]
def keyV (lb : Int) (m : List Nat) : Value := .agg #[.int .i64 lb, .string (strM m)]
theorem keyV_inj {lb lb' : Int} {m m' : List Nat} (h : Byt m) (h' : Byt m') (e : keyV lb m = keyV lb' m') : lb = lb' ∧ m = m' := by
  unfold keyV at e
  injection e with e
  have e1 := congrArg Array.toList e
  simp at e1
  exact ⟨e1.1, strM_inj h h' e1.2⟩
theorem keyRow : (134 : TypeId) < Try.prog.types.size := of_decide_eq_true (by kernel_rfl)
set_option maxRecDepth 100000 in
theorem keyWide : (match Try.prog.underlying 134 with | some (.array _ _) | some (.struct _) => true | _ => false) = true := by kernel_rfl
theorem keyLaid : laidOutB Try.prog = true := by kernel_rfl
set_option maxRecDepth 100000 in
theorem keyK : Keyed Try.prog 134 := Keyed.of_law (deep_law_laid keyLaid (m := 2) (by omega) keyRow (by kernel_rfl) keyWide)
set_option maxRecDepth 100000 in
theorem keyTy : Try.prog.keyType 134 = true := by kernel_rfl
theorem keyCells : Try.prog.cellsOf 134 = 2 := by kernel_rfl
theorem keyCellI : Try.prog.cellsOf 3 = 1 := by kernel_rfl
theorem keyCellS : Try.prog.cellsOf 9 = 1 := by kernel_rfl
theorem keyLits_of (d : Nat) (lb : Int) (S : ByteArray) (hl : Fit lb) (hs : S.size ≤ maxLen) : Try.prog.keyLits (d + 2) 134 [.int .i64 lb, .string S] = some [.int .i64 lb, .string S.data.toList] := by
  have hw : (Lit.int .i64 lb).wf = true := WalkArith.wf_i64 (by unfold Fit at hl; omega)
  simp [Program.keyLits, Try.underlying134, Try.underlying3, Try.underlying9, keyCells, keyCellI, keyCellS, hw, hs]
theorem key_of (lb : Int) (m : List Nat) (hl : Fit lb) (hm : m.length ≤ 9223372036854775807) : ∃ kl, keyOf Try.prog 134 (keyV lb m) = some kl := by
  have hn : Try.prog.types.size + 1 = (Try.prog.types.size - 1) + 2 := by have h0 : 0 < Try.prog.types.size := of_decide_eq_true (by kernel_rfl); omega
  have h1 := keyLits_of (Try.prog.types.size - 1) lb (strM m) hl (by rw [strM_size]; exact hm)
  rw [← hn] at h1
  refine ⟨.string (keyBytes [.int .i64 lb, .string (strM m).data.toList]), ?_⟩
  unfold keyOf keyV
  rw [Try.underlying134]
  simp only [keyTy, Bool.true_and]
  rw [if_pos (by simp [Value.formed, Try.underlying134, keyCells])]
  simp only [Value.cells]
  rw [h1]
  rfl
/-! ### the map -/
theorem zeroI (w : World) : (zeroValue 3).run Try.prog w = .ok (.int .i64 0) w := by kernel_rfl
def KeyOk (D : DataW Unit) (f : Int → List Nat → Option Nat) : Prop := IsMap D ∧ ∀ lb m, Fit lb → Byt m → m.length ≤ 9223372036854775807 → ∀ kl, keyOf Try.prog 134 (keyV lb m) = some kl → Maps.has D kl = (f lb m).isSome ∧ ∀ v, f lb m = some v → ∀ z, D.atKey kl z = .lit (.int .i64 (v : Int))
def updK (f : Int → List Nat → Option Nat) (lb : Int) (m : List Nat) (v : Nat) (lb' : Int) (m' : List Nat) : Option Nat := if lb' = lb ∧ m' = m then some v else f lb' m'
theorem key_new : KeyOk (.map []) (fun _ _ => none) := ⟨isMap_empty, fun lb m _ _ _ kl _ => ⟨by simp [Maps.has], fun v h => by cases h⟩⟩
set_option maxRecDepth 100000 in
theorem key_put {D : DataW Unit} {f : Int → List Nat → Option Nat} (h : KeyOk D f) {lb : Int} {m : List Nat} (hm : Byt m) {kl : Lit} (hk : keyOf Try.prog 134 (keyV lb m) = some kl) (v : Nat) : KeyOk (D.put kl (.lit (.int .i64 (v : Int)))) (updK f lb m v) := by
  refine ⟨h.1.put _ _, fun lb' m' hl' hm' hn' kl' hk' => ?_⟩
  unfold updK
  by_cases e : lb' = lb ∧ m' = m
  · obtain ⟨rfl, rfl⟩ := e
    have e2 : kl' = kl := Option.some.inj (hk'.symm.trans hk)
    subst e2
    rw [if_pos ⟨rfl, rfl⟩]
    refine ⟨has_put_same h.1 (keyK.key hk) _, fun u hu z => ?_⟩
    injection hu with hu
    subst hu
    exact atKey_put_same h.1 (keyK.key hk) _ _
  · rw [if_neg e]
    have hne : kl' ≠ kl := fun e2 => by
      subst e2
      exact e (keyV_inj hm' hm (keyK.inj hk' hk))
    refine ⟨by rw [has_put_other hne]; exact (h.2 lb' m' hl' hm' hn' kl' hk').1, fun u hu z => ?_⟩
    rw [atKey_put_other hne]
    exact (h.2 lb' m' hl' hm' hn' kl' hk').2 u hu z
def mapK (w : World) (b n : Nat) (f : Int → List Nat → Option Nat) : Prop := ∃ D : DataW Unit, w.ownsMap Try.prog 134 (plainElem Try.prog 3) b n D ∧ KeyOk D f
theorem own_map_same {H : Type} {P : Program} {k : TypeId} {R : Value → Option (DataW H × List MemPlace)} {b n : Nat} {D : DataW H} {w w' : World} (h : w.ownsMap P k R b n D) (e : w'.heap[b]? = w.heap[b]?) : w'.ownsMap P k R b n D := by
  obtain ⟨es, cl, hb, r⟩ := h
  exact ⟨es, cl, e.trans hb, r⟩
section
variable {w w' : World} {b n : Nat} {f : Int → List Nat → Option Nat}
theorem mapK_same (h : mapK w b n f) (e : w'.heap[b]? = w.heap[b]?) : mapK w' b n f := by obtain ⟨D, h1, h2⟩ := h; exact ⟨D, own_map_same h1 e, h2⟩
theorem mapK_lt (h : mapK w b n f) : b < w.heap.size := by obtain ⟨D, h1, _⟩ := h; exact h1.lt
theorem mapK_new (w : World) : mapK (w.alloc (.map #[] 0)) w.heap.size 0 (fun _ _ => none) := ⟨.map [], World.ownsMap_made _ _ _ _, key_new⟩
theorem mapK_set (h : mapK w b n f) (hn : n ≤ 1000000) {lb : Int} {m : List Nat} (hl : Fit lb) (hm : Byt m) (hml : m.length ≤ 9223372036854775807) (v : Nat) (hv : v ≤ 1000000) :
    ∃ w', (Instr.mapUpdate 130 (.map (some b)) (keyV lb m) (.int .i64 (v : Int))).run Try.prog w = .ok () w' ∧ mapK w' b (n + 1) (updK f lb m v) ∧ w.grownBy w' (some b) := by
  obtain ⟨D, h1, h2⟩ := h
  obtain ⟨kl, hk⟩ := key_of lb m hl hml
  obtain ⟨w', r1, r2, r3⟩ := h1.update keyK Try.underlying130 (by unfold maxLen; omega) hk (plainElem_int Try.underlying3 (WalkArith.wf_i64 (show -9223372036854775808 ≤ (v : Int) ∧ (v : Int) ≤ 9223372036854775807 by omega)))
  exact ⟨w', r1, ⟨_, r2, key_put h2 hm hk v⟩, r3⟩
set_option maxRecDepth 100000 in
theorem mapK_get (h : mapK w b n f) {lb : Int} {m : List Nat} (hl : Fit lb) (hm : Byt m) (hml : m.length ≤ 9223372036854775807) :
    (Instr.lookup 130 (.map (some b)) (keyV lb m) true).run Try.prog w = .ok (.tuple #[.int .i64 (((f lb m).getD 0 : Nat) : Int), .bool (f lb m).isSome]) w := by
  obtain ⟨D, h1, h2⟩ := h
  obtain ⟨kl, hk⟩ := key_of lb m hl hml
  obtain ⟨u, ps, r1, r2⟩ := h1.look_ok keyK Try.underlying130 (zeroI w) (plainElem_int Try.underlying3 (by decide)) hk
  obtain ⟨c', rfl, e, _⟩ := plainElem_int_inv Try.underlying3 r2
  obtain ⟨e1, e2⟩ := h2.2 lb m hl hm hml kl hk
  have e3 := congrArg Prod.fst e
  simp only at e3
  have ec : c' = (((f lb m).getD 0 : Nat) : Int) := by
    cases hf : f lb m with
    | none =>
      rw [hf] at e1
      rw [atKey_of_not_has e1] at e3
      injection e3 with e3
      injection e3 with _ e3
      exact e3.symm
    | some v =>
      rw [e2 v hf] at e3
      injection e3 with e3
      injection e3 with _ e3
      exact e3.symm
  rw [e1, ec] at r1
  exact r1
theorem mapK_clear (h : mapK w b n f) : ∃ w', (∀ ty, (Builtin.clear_ #[130] ty #[.map (some b)]).run Try.prog w = .ok (.tuple #[]) w') ∧ mapK w' b 0 (fun _ _ => none) ∧ w.grownBy w' (some b) := by
  obtain ⟨D, ⟨es, clock, hb, F, hs, hD⟩, h2⟩ := h
  refine ⟨Go.ChangeMaps.setBlock w b (.map #[] clock), ?_, ⟨.map [], ⟨#[], clock, Go.ChangeMaps.heap_setBlock_same hb _, ⟨by simp, Go.MapKept.stamped_empty clock, by simp⟩, Nat.le_refl _, rfl⟩, key_new⟩, ⟨rfl, rfl, rfl, by simp [Go.ChangeMaps.setBlock], fun i _ hi => Go.ChangeMaps.heap_setBlock_other hb _ (fun e => hi (by rw [e]))⟩⟩
  intro ty
  simp [Builtin.clear_, run_underlying Try.underlying130, MapKept.run_getObj_map hb, MapKept.run_setObj_map _ hb, Result.andThen, Go.ChangeMaps.setBlock]
end
end Go.Proofs.Ytnbhgeodbpelgaa
