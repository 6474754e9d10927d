/- Layer 19's page's example; the law QueueApart, walked. No conditions. -/
import Derived.Test.YtfcappddncnglaaQueF
import Derived.Test.YtfcappddncnglaaIn
import Derived.Laws.BytesArg
import Derived.Lib.SlBytesConst
namespace Go.Proofs.Ytfcappddncnglaa
open Go.RowKit
set_option linter.unusedVariables false

/-- string(b). -/
theorem run_text {P : Program} {w : World} {A : Option Addr} {c : Nat} {l : List Nat} {src dst e : TypeId} (hs : P.underlying src = some (.slice e)) (he : P.underlying e = some (.int .u8)) (hd : P.underlying dst = some .string)
    (h : Rd w.heap.size w A (u8s l)) (hl : 0 < l.length) : (convert src dst (.slice A l.length c)).run P w = .ok (.string (strOfNums (l.map fun n : Nat => (n : Int)))) w := by
  obtain ⟨b, o, rfl, _, hc⟩ := h (by rw [u8s_length]; exact hl)
  refine run_convert_bytes_arg w src e hs he b o l.length c _ (by simp) (fun i hi => ?_) dst hd
  have := hc i _ (u8s_get (List.getElem?_eq_getElem hi))
  rw [this]
  simp [List.getD_eq_getElem?_getD, hi]
theorem num19 (n : Int) (w : World) : Calls Try.prog 17 #[.int .i64 n] w fun e w' => e = .returned (.int .i64 n) ∧ w = w' := by
  go_enter Try.func17, Try.ntmps17
  go_wp2
  go_ret
  exact ⟨rfl, rfl⟩
/-- the first of a queue that is not empty, popped. -/
theorem que_pop1 {w : World} {B g room : Nat} {m : List Nat} {ms : List (List Nat)} {F : Nat → Prop} (h : Qu w B g room (m :: ms) F) :
    Calls Try.prog 18 #[.pointer (some ⟨g, 0, none⟩)] w fun e w' => ∃ A c, e = .returned (.tuple #[.slice A m.length c, .bool true]) ∧ w'.ownsRow w.heap.size 5 1 (.slice A m.length c) m.length (u8s m) ∧ Qu w' B g room ms F ∧ Turn F F w w' := pop_some h
theorem que_front1 {w : World} {B g room : Nat} {m : List Nat} {ms : List (List Nat)} {F : Nat → Prop} (h : Qu w B g room (m :: ms) F) :
    Calls Try.prog 23 #[.pointer (some ⟨g, 0, none⟩)] w fun e w' => ∃ A c, e = .returned (.tuple #[.slice A m.length c, .bool true]) ∧ w'.ownsRow w.heap.size 5 1 (.slice A m.length c) m.length (u8s m) ∧ Below w.heap.size w w' := que_front h
/-- a text of the program's own words: one byte. -/
theorem conv1 (w : World) (x : Int) (n c : Nat) : (convert 33 33 (.slice (some ⟨w.heap.size, 0, none⟩) n c)).run Try.prog (w.alloc (.cells #[.int .u8 x] 5)) = .ok (.slice (some ⟨w.heap.size, 0, none⟩) n c) (w.alloc (.cells #[.int .u8 x] 5 (1, 2))) :=
  Lib.run_convert_bytes_const (P := Try.prog) w 33 5 #[.int .u8 x] n c Try.underlying33 Try.underlying5
theorem rd_lit1 (w : World) (x : Nat) : Rd (w.alloc (.cells #[.int .u8 (x : Nat)] 5 (1, 2))).heap.size (w.alloc (.cells #[.int .u8 (x : Nat)] 5 (1, 2))) (some ⟨w.heap.size, 0, none⟩) (u8s [x]) := fun _ =>
  ⟨w.heap.size, 0, rfl, by simp, fun j u hu => by
    rw [World.cell?_alloc_mark, Nat.zero_add]
    simpa [u8s] using hu⟩
theorem push_one {w : World} {B g room : Nat} {ms : List (List Nat)} {F : Nat → Prop} (h : Qu w B g room ms F) (x : Nat) (X : Int) (e' : Nat) (L : List (List Nat)) (hX : X = (x : Int)) (he : pushE room ms [x] = e') (hL : pushL room ms [x] = L) :
    Calls Try.prog 21 #[.pointer (some ⟨g, 0, none⟩), .slice (some ⟨w.heap.size, 0, none⟩) 1 1] (w.alloc (.cells #[.int .u8 X] 5 (1, 2))) fun e w' => ∃ F', e = .returned (.int .i64 (e' : Nat)) ∧ Qu w' B g room L F' ∧ Turn F F' w w' := by
  subst he hL hX
  have hb : Below w.heap.size w (w.alloc (.cells #[.int .u8 (x : Nat)] 5 (1, 2))) := (Below.refl _ _).alloc (Nat.le_refl _) _
  refine (que_push (h.on hb) (some ⟨w.heap.size, 0, none⟩) 1 [x] (rd_lit1 w x)).mono ?_
  rintro e w' ⟨F', he, hq, ht⟩
  exact ⟨F', he, hq, (Turn.of_below hb).trans ht⟩
set_option maxRecDepth 100000 in
theorem live19 (w : World) : Calls Try.prog 14 #[] w fun e w' => e = .returned (.bool true) ∧ Below w.heap.size w w' := by
  have HN := hide (que_new 1 (by omega) (by omega) w)
  have kc := conv1
  go_enter Try.func14, Try.ntmps14
  go_wp2_with fail
  refine HN.out.mono ?_; rintro e w1 ⟨g, F, rfl, hq, hb⟩
  have HP1 := hide (push_one (e' := 0) (L := [[97]]) (X := 97) hq 97 rfl rfl rfl)
  have HB := hide hb
  have HF := hide hq.1
  clear hq hb HN
  go_wp2_with fail
  refine HP1.out.mono ?_; rintro e w2 ⟨F2, rfl, hq, ht⟩
  have HP2 := hide (push_one (e' := 3) (L := [[97]]) (X := 98) hq 98 rfl rfl rfl)
  have HB2 := hide (ht.below HB.out HF.out HB.out.size)
  have HF2 := hide hq.1
  clear hq ht HP1
  go_wp2_with fail
  refine HP2.out.mono ?_; rintro e w3 ⟨F3, rfl, hq, ht⟩
  have HP3 := hide (que_pop1 hq)
  have HB3 := hide (ht.below HB2.out HF2.out HB2.out.size)
  have HF3 := hide hq.1
  clear hq ht HP2
  go_wp2_with fail
  refine HP3.out.mono ?_; rintro e w4 ⟨A, c, rfl, ho, hq, ht⟩
  have HB4 := hide (ht.below HB3.out HF3.out HB3.out.size)
  have hcv := run_text (P := Try.prog) (c := c) (src := 33) (dst := 9) Try.underlying33 Try.underlying5 Try.underlying9 (own_rd ho) (by simp)
  rw [show strOfNums (([97] : List Nat).map fun n : Nat => (n : Int)) = ⟨#[97]⟩ from rfl, show ([97] : List Nat).length = 1 from rfl] at hcv
  clear hq ht HP3 ho
  go_wp2_with fail
  refine (num19 _ _).mono ?_; rintro e w' ⟨rfl, rfl⟩
  go_wp2_with fail
  refine (num19 _ _).mono ?_; rintro e w' ⟨rfl, rfl⟩
  go_wp2_with fail
  refine (num19 _ _).mono ?_; rintro e w' ⟨rfl, rfl⟩
  go_wp2
  go_ret
  exact ⟨rfl, HB4.out⟩
/-- All of a nil one. -/
theorem nil_all (w : World) : Calls Try.prog 29 #[.pointer none] w fun e w' => e = .returned (.slice none 0 0) ∧ w = w' := by
  go_enter Try.func29, Try.ntmps29
  go_wp2
  refine wp_scope_jumps 0 (fun a' w' => False) (fun a' _ => 0) rfl ?_ (fun a w h => h.elim)
  go_wp2
  go_step3
  go_wp2_with fail
  refine (nil_at _ _).mono ?_; rintro e w' ⟨rfl, rfl⟩
  go_wp2
  simp only [Exit.jump]
  go_ret
  exact ⟨rfl, rfl⟩
set_option maxRecDepth 100000 in
theorem apart_no (w : World) (A : Option Addr) (n c : Nat) (h : n = 0 ∨ (64 < n)) : Calls Try.prog 5 #[.slice A n c] w fun e w' => e = .returned (.bool true) ∧ Below w.heap.size w w' := by
  have t0 : 64 < n → ((n : Int) == 0) = false := fun h => by simp; omega
  rcases h with rfl | h1
  · clear t0
    go_enter Try.func5, Try.ntmps5
    go_wp2_with fail
    refine (nil_pop _).mono ?_; rintro e w' ⟨rfl, rfl⟩
    go_wp2_with fail
    refine (nil_front _).mono ?_; rintro e w' ⟨rfl, rfl⟩
    go_wp2_with fail
    refine (nil_push _ _ _ _).mono ?_; rintro e w' ⟨rfl, rfl⟩
    go_wp2_with fail
    refine (num19 _ _).mono ?_; rintro e w' ⟨rfl, rfl⟩
    go_wp2_with fail
    refine (nil_len _).mono ?_; rintro e w' ⟨rfl, rfl⟩
    go_wp2_with fail
    refine (nil_free _).mono ?_; rintro e w' ⟨rfl, rfl⟩
    go_wp2_with fail
    refine (nil_all _).mono ?_; rintro e w' ⟨rfl, rfl⟩
    go_wp2_with fail
    refine (live19 _).mono ?_; rintro e w' ⟨rfl, hb⟩
    go_wp2
    go_ret
    exact ⟨rfl, hb⟩
  · have t0 := t0 h1
    go_enter Try.func5, Try.ntmps5
    go_wp2_with fail
    refine (nil_pop _).mono ?_; rintro e w' ⟨rfl, rfl⟩
    go_wp2_with fail
    refine (nil_front _).mono ?_; rintro e w' ⟨rfl, rfl⟩
    go_wp2_with fail
    refine (nil_push _ _ _ _).mono ?_; rintro e w' ⟨rfl, rfl⟩
    go_wp2_with fail
    refine (num19 _ _).mono ?_; rintro e w' ⟨rfl, rfl⟩
    go_wp2_with fail
    refine (nil_len _).mono ?_; rintro e w' ⟨rfl, rfl⟩
    go_wp2_with fail
    refine (nil_free _).mono ?_; rintro e w' ⟨rfl, rfl⟩
    go_wp2_with fail
    refine (nil_all _).mono ?_; rintro e w' ⟨rfl, rfl⟩
    go_wp2_with fail
    refine (live19 _).mono ?_; rintro e w' ⟨rfl, hb⟩
    go_wp2
    go_ret
    exact ⟨rfl, hb⟩
end Go.Proofs.Ytfcappddncnglaa
