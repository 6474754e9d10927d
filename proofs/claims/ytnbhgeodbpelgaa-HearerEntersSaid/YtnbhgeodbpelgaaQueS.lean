/- Layer 19's queue: words for the layers above (the parts of QueG without law 19). No conditions. -/
import Derived.Test.YtnbhgeodbpelgaaQueF
import Derived.Test.YtnbhgeodbpelgaaIn
import Derived.Laws.BytesArg
import Derived.Lib.SlBytesConst
namespace Go.Proofs.Ytnbhgeodbpelgaa
open Go.RowKit
set_option linter.unusedVariables false

/-- string(b). -/
theorem run_text {P : Program} {w : World} {A : Option Addr} {c : Nat} {l : List Nat} {src dst e : TypeId} (hs : P.underlying src = some (.slice e)) (he : P.underlying e = some (.int .u8)) (hd : P.underlying dst = some .string)
    (h : Rd w.heap.size w A (u8s l)) (hl : 0 < l.length) : (convert src dst (.slice A l.length c)).run P w = .ok (.string (strOfNums (l.map fun n : Nat => (n : Int)))) w := by
  obtain ⟨b, o, rfl, _, hc⟩ := h (by rw [u8s_length]; exact hl)
  refine run_convert_bytes_arg w src e hs he b o l.length c _ (by simp) (fun i hi => ?_) dst hd
  have := hc i _ (u8s_get (List.getElem?_eq_getElem hi))
  rw [this]
  simp [List.getD_eq_getElem?_getD, hi]
/-- the first of a queue that is not empty, popped. -/
theorem que_pop1 {w : World} {B g room : Nat} {m : List Nat} {ms : List (List Nat)} {F : Nat → Prop} (h : Qu w B g room (m :: ms) F) :
    Calls Try.prog 83 #[.pointer (some ⟨g, 0, none⟩)] w fun e w' => ∃ A c, e = .returned (.tuple #[.slice A m.length c, .bool true]) ∧ w'.ownsRow w.heap.size 5 1 (.slice A m.length c) m.length (u8s m) ∧ Qu w' B g room ms F ∧ Turn F F w w' := pop_some h
theorem que_front1 {w : World} {B g room : Nat} {m : List Nat} {ms : List (List Nat)} {F : Nat → Prop} (h : Qu w B g room (m :: ms) F) :
    Calls Try.prog 96 #[.pointer (some ⟨g, 0, none⟩)] w fun e w' => ∃ A c, e = .returned (.tuple #[.slice A m.length c, .bool true]) ∧ w'.ownsRow w.heap.size 5 1 (.slice A m.length c) m.length (u8s m) ∧ Below w.heap.size w w' := que_front h
/-- a text of the program's own words: one byte. -/
theorem conv1 (w : World) (x : Int) (n c : Nat) : (convert 34 34 (.slice (some ⟨w.heap.size, 0, none⟩) n c)).run Try.prog (w.alloc (.cells #[.int .u8 x] 5)) = .ok (.slice (some ⟨w.heap.size, 0, none⟩) n c) (w.alloc (.cells #[.int .u8 x] 5 (1, 2))) :=
  Lib.run_convert_bytes_const (P := Try.prog) w 34 5 #[.int .u8 x] n c Try.underlying34 Try.underlying5
theorem rd_lit1 (w : World) (x : Nat) : Rd (w.alloc (.cells #[.int .u8 (x : Nat)] 5 (1, 2))).heap.size (w.alloc (.cells #[.int .u8 (x : Nat)] 5 (1, 2))) (some ⟨w.heap.size, 0, none⟩) (u8s [x]) := fun _ =>
  ⟨w.heap.size, 0, rfl, by simp, fun j u hu => by
    rw [World.cell?_alloc_mark, Nat.zero_add]
    simpa [u8s] using hu⟩
theorem push_one {w : World} {B g room : Nat} {ms : List (List Nat)} {F : Nat → Prop} (h : Qu w B g room ms F) (x : Nat) (X : Int) (e' : Nat) (L : List (List Nat)) (hX : X = (x : Int)) (he : pushE room ms [x] = e') (hL : pushL room ms [x] = L) :
    Calls Try.prog 62 #[.pointer (some ⟨g, 0, none⟩), .slice (some ⟨w.heap.size, 0, none⟩) 1 1] (w.alloc (.cells #[.int .u8 X] 5 (1, 2))) fun e w' => ∃ F', e = .returned (.int .i64 (e' : Nat)) ∧ Qu w' B g room L F' ∧ Turn F F' w w' := by
  subst he hL hX
  have hb : Below w.heap.size w (w.alloc (.cells #[.int .u8 (x : Nat)] 5 (1, 2))) := (Below.refl _ _).alloc (Nat.le_refl _) _
  refine (que_push (h.on hb) (some ⟨w.heap.size, 0, none⟩) 1 [x] (rd_lit1 w x)).mono ?_
  rintro e w' ⟨F', he, hq, ht⟩
  exact ⟨F', he, hq, (Turn.of_below hb).trans ht⟩
/-- All of a nil one. -/
theorem nil_all (w : World) : Calls Try.prog 86 #[.pointer none] w fun e w' => e = .returned (.slice none 0 0) ∧ w = w' := by
  go_enter Try.func86, Try.ntmps86
  go_wp2
  refine wp_scope_jumps 0 (fun a' w' => False) (fun a' _ => 0) rfl ?_ (fun a w h => h.elim)
  go_wp2
  go_step3
  go_wp2_with fail
  refine (nil_at _ _).mono ?_; rintro e w' ⟨rfl, rfl⟩
  go_wp2
  simp only [Exit.jump]
  go_ret
  exact ⟨rfl, rfl⟩
end Go.Proofs.Ytnbhgeodbpelgaa
