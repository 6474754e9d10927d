/- Layer 19's queue, by what it does in memory: At, Front. No conditions. -/
import Derived.Test.YtnbhgeodbpelgaaQueB
namespace Go.Proofs.Ytnbhgeodbpelgaa
open Go.RowKit
set_option linter.unusedVariables false

/-- a text that was asked for, in new memory. -/
def AtR (o : Option (List Nat)) (w : World) (e : Ending) (w' : World) : Prop :=
  ∃ A c, e = .returned (.tuple #[.slice A (o.getD []).length c, .bool o.isSome]) ∧ w'.ownsRow w.heap.size 5 1 (.slice A (o.getD []).length c) (o.getD []).length (u8s (o.getD [])) ∧ Below w.heap.size w w'
def getAt (ms : List (List Nat)) (i : Int) : Option (List Nat) := if i < 0 then none else ms[i.toNat]?
theorem own_drew {w w' : World} {base e n : Nat} {v : Value} {xs : List Value} (h : w'.ownsRow base e 1 v n xs) : w'.drew.ownsRow base e 1 v n xs := h
theorem que_at_in {w : World} {B g room : Nat} {ms : List (List Nat)} {F : Nat → Prop} (h : Qu w B g room ms F) (i : Nat) (m : List Nat) (hm : ms[i]? = some m) :
    Calls Try.prog 101 #[.pointer (some ⟨g, 0, none⟩), .int .i64 (i : Nat)] w (AtR (some m) w) := by
  obtain ⟨_, _, ⟨r1, r2, r3⟩, hsm, f, ring, hf, hrl, hb, hx⟩ := h
  obtain ⟨v, hv, ⟨A, c, rfl, hr⟩, _⟩ := hx i m hm
  have hml := hsm m (List.mem_of_getElem? hm)
  have hil := (List.getElem?_eq_some_iff.1 hm).1
  have HPL := hide (show Calls Try.prog 91 #[.pointer (some ⟨g, 0, none⟩), .int .i64 (i : Nat)] w.drew fun e w' => e = .returned (.int .i64 ((f + i) % 16 : Nat)) ∧ w.drew = w' from que_place (w := w.drew) hf (hb.cell (i := 1) rfl) i (by omega))
  have HCL := hide (show Calls Try.prog 90 #[.slice A m.length c] w.drew (NewT m w.drew) from clone_u8 A c m (by omega) w.drew hr)
  have c1 : w.cell? ⟨g, 1, none⟩ = some (.int .i64 (f : Nat)) := hb.cell rfl
  have c2 : w.cell? ⟨g, 2, none⟩ = some (.int .i64 (ms.length : Nat)) := hb.cell rfl
  obtain ⟨k, hk⟩ : ∃ k, k = (f + i) % 16 := ⟨_, rfl⟩
  rw [← hk] at hv HPL
  have hk16 : (k : Int) < 16 := by omega
  have hk0 : (0 : Int) ≤ (k : Int) := by omega
  have c3 : w.cell? ⟨g, 3 + k, none⟩ = some (.slice A m.length c) := by rw [Nat.add_comm]; exact hb.cell (i := k + 3) hv
  have hgl := hb.lt
  have h0 : ¬ (i : Int) < 0 := by omega
  have h1 : ¬ (ms.length : Int) ≤ (i : Int) := by omega
  have HGL := hide hgl
  have HC3 := hide c3
  clear hb hx hr hv hm hf hsm hrl hk hil r1 r2 r3
  go_enter Try.func101, Try.ntmps101
  go_wp2
  go_region_held3 (fun w' => w'.cell? ⟨g, 3 + k, none⟩ = some (.slice A m.length c)) (first | exact keep1 hq1 HGL.out HC3.out | go_keep)
    ((first
      | (go_at_call 91; (with_reducible refine HPL.out.mono ?_); rintro e w' ⟨rfl, rfl⟩)
      | (go_at_call 90; (with_reducible refine HCL.out.mono ?_); rintro e wq1 ⟨A1, c1, rfl, hq0, hq1⟩)))
  go_wp2
  go_ret2
  exact ⟨A1, c1, rfl, hq0, below2 (Below.refl _ w).drew hq1 (Nat.le_refl _)⟩
theorem que_at_out {w : World} {B g room : Nat} {ms : List (List Nat)} {F : Nat → Prop} (h : Qu w B g room ms F) (i : Int) (hi : i < 0 ∨ (0 ≤ i ∧ (ms.length : Int) ≤ i)) :
    Calls Try.prog 101 #[.pointer (some ⟨g, 0, none⟩), .int .i64 i] w fun e w' => e = .returned (.tuple #[.slice none 0 0, .bool false]) ∧ w = w' := by
  obtain ⟨_, _, _, _, f, ring, _, _, hb, _⟩ := h
  have c2 : w.cell? ⟨g, 2, none⟩ = some (.int .i64 (ms.length : Nat)) := hb.cell rfl
  clear hb
  rcases hi with hi | ⟨hi, h1⟩
  · go_enter Try.func101, Try.ntmps101
    go_wp2
    go_ret2
    exact ⟨rfl, rfl⟩
  · have h0 : ¬ i < 0 := by omega
    clear hi
    go_enter Try.func101, Try.ntmps101
    go_wp2
    go_ret2
    exact ⟨rfl, rfl⟩
theorem atR_none {w : World} : AtR none w (.returned (.tuple #[.slice none 0 0, .bool false])) w := ⟨none, 0, rfl, World.ownsRow_nil _ _ _ _, Below.refl _ _⟩
theorem que_at {w : World} {B g room : Nat} {ms : List (List Nat)} {F : Nat → Prop} (h : Qu w B g room ms F) (i : Int) :
    Calls Try.prog 101 #[.pointer (some ⟨g, 0, none⟩), .int .i64 i] w (AtR (getAt ms i) w) := by
  unfold getAt
  by_cases h0 : i < 0
  · rw [if_pos h0]
    refine (que_at_out h i (.inl h0)).mono ?_
    rintro e w' ⟨rfl, rfl⟩
    exact atR_none
  · rw [if_neg h0]
    obtain ⟨j, rfl⟩ := Int.eq_ofNat_of_zero_le (show 0 ≤ i by omega)
    by_cases h1 : j < ms.length
    · have := que_at_in h j _ (List.getElem?_eq_getElem h1)
      rw [Int.toNat_natCast, List.getElem?_eq_getElem h1]
      exact this
    · rw [List.getElem?_eq_none (by simp; omega)]
      refine (que_at_out h j (.inr (by omega))).mono ?_
      rintro e w' ⟨rfl, rfl⟩
      exact atR_none
theorem que_front {w : World} {B g room : Nat} {ms : List (List Nat)} {F : Nat → Prop} (h : Qu w B g room ms F) :
    Calls Try.prog 96 #[.pointer (some ⟨g, 0, none⟩)] w (AtR ms[0]? w) := by
  have HA := hide (que_at h 0)
  rw [show getAt ms 0 = ms[0]? from rfl] at HA
  clear h
  go_enter Try.func96, Try.ntmps96
  go_wp2_with fail
  refine HA.out.mono ?_; rintro e w' ⟨A, c, rfl, h1, h2⟩
  go_wp2
  go_ret2
  exact ⟨A, c, rfl, h1, h2⟩
end Go.Proofs.Ytnbhgeodbpelgaa
