/- Packets: one that is told, packets that stay while an object turns; words on pushing. No conditions. -/
import Derived.Test.YtnbhgeodbpelgaaCalA
import Derived.Test.YtnbhgeodbpelgaaLedB
import Derived.Test.YtnbhgeodbpelgaaQueS
namespace Go.Proofs.Ytnbhgeodbpelgaa
open Go.RowKit
set_option linter.unusedVariables false

theorem pushL_notC {room : Nat} {ms : List (List Nat)} {m : List Nat} (h : pushE room ms m ≠ 0) : pushL room ms m = ms := by
  unfold pushE at h
  unfold pushL
  by_cases h1 : 64 < m.length
  · rw [if_pos h1]
  · rw [if_neg h1] at h ⊢
    by_cases h2 : room ≤ ms.length
    · rw [if_pos h2]
    · rw [if_neg h2] at h; exact absurd rfl h
/-- one packet, in a new block. -/
theorem prbs_one {P : Nat → Prop} (w : World) (k lb : Int) (D : Option Addr) (c : Nat) (m : List Nat) (ty : TypeId) (hP : P w.heap.size) (hD : Rd w.heap.size w D (u8s m)) (hl : m.length ≤ 9223372036854775807) (hd : 0 < m.length → ∀ b o s, D = some ⟨b, o, s⟩ → P b) :
    Prbs P (w.alloc (.cells #[.int .i64 k, .int .i64 lb, .slice D m.length c] ty)) (some ⟨w.heap.size, 0, none⟩) [(k, lb, m)] := fun i p hk => by
  cases i with
  | zero =>
    injection hk with hk
    subst hk
    have hb := Blk.new w ty [.int .i64 k, .int .i64 lb, .slice D m.length c]
    exact ⟨w.heap.size, 0, D, c, rfl, hP, hb.lt, fun j v hv => by rw [show 0 + 0 * 3 + j = j by omega]; exact hb.cell hv, hD.on ((Below.refl _ _).alloc (Nat.le_refl _) _), hl, hd⟩
  | succ i => simp at hk
theorem prbs_sameN {P P' : Nat → Prop} {A C : Option Addr} {c d n : Nat} {ts : List Prb} {w : World} (hn : ts.length = n) (hA : Prbs P w A ts) (hC : Prbs P' w C ts) (hl : n ≤ 9223372036854775807) :
    Calls Try.prog 19 #[.slice A n c, .slice C n d] w fun e w' => e = .returned (.bool true) ∧ Below w.heap.size w w' := by
  subst hn
  exact prbs_same hA hC hl
/-- packets stay while an object that they are off turns, and are off it still. -/
theorem Prbs.turned {P F F' : Nat → Prop} {w w' : World} {A : Option Addr} {ts : List Prb} (h : Prbs P w A ts) (hP : ∀ b, P b → ¬ F b) (ht : Turn F F' w w') : Prbs (fun k => ¬ F' k) w' A ts :=
  ((h.imp (P' := fun k => ¬ F k ∧ k < w.heap.size) (fun b hb hl => ⟨hP b hb, hl⟩)).kept (fun b hb hl => ht.block b hl hb.1) ht.size).imp (fun b hb _ => fun hf => (ht.new b hf).elim hb.1 (by omega))
end Go.Proofs.Ytnbhgeodbpelgaa
