/- Layer 40: Cut at one, Get and its reference's, by what they compute. No conditions. -/
import Derived.Test.YtfcappddncnglaaMuxB
namespace Go.Proofs.Ytfcappddncnglaa
open Go.RowKit
set_option linter.unusedVariables false

theorem clone_nil (A : Option Addr) (c : Nat) (w : World) (hA : Rd w.heap.size w A (u8s [])) : Calls Try.prog 67 #[.slice A 0 c] w (NewT [] w) := clone_u8 A c [] (Nat.zero_le _) w hA
theorem copy_nil (A : Option Addr) (c : Nat) (w : World) (hA : Rd w.heap.size w A (u8s [])) : Calls Try.prog 30 #[.slice A 0 c] w (NewT [] w) := copy_u8 A c [] (Nat.zero_le _) w hA
def CutR (x : Nat) (t : List Nat) (w : World) (e : Ending) (w' : World) : Prop :=
  ∃ A1 c1 A2 c2, e = .returned (.tuple #[.slice A1 1 c1, .slice A2 t.length c2, .bool true]) ∧ w'.ownsRow w.heap.size 5 1 (.slice A1 1 c1) 1 (u8s [x]) ∧ w'.ownsRow w.heap.size 5 1 (.slice A2 t.length c2) t.length (u8s t) ∧ Below w.heap.size w w'
theorem cut_none (A : Option Addr) (c : Nat) (w : World) : Calls Try.prog 72 #[.slice A 0 c, .int .i64 1] w fun e w' => e = .returned (.tuple #[.slice none 0 0, .slice none 0 0, .bool false]) ∧ w = w' := by
  go_enter Try.func72, Try.ntmps72
  go_wp2
  go_ret3
  exact ⟨rfl, rfl⟩
set_option maxRecDepth 100000 in
set_option maxHeartbeats 1000000 in
theorem cut_any (A : Option Addr) (c : Nat) (x : Nat) (t : List Nat) (hcap : t.length + 1 ≤ c) (hl : t.length ≤ 140737488355328) (w : World) (hA : Rd w.heap.size w A (u8s (x :: t))) :
    Calls Try.prog 72 #[.slice A (t.length + 1) c, .int .i64 1] w (CutR x t w) := by
  obtain ⟨b, o, rfl, hb, hcs⟩ := hA (by simp [u8s])
  have hx : Rd w.heap.size w (some ⟨b, o, none⟩) (u8s [x]) := fun _ => ⟨b, o, rfl, hb, fun j u hu => by
    cases j with
    | zero => exact hcs 0 u hu
    | succ j => simp [u8s] at hu⟩
  have ht : ∀ A2, (t ≠ [] → A2 = some (⟨b, o + 1, none⟩ : Addr)) → Rd w.heap.size w A2 (u8s t) := fun A2 h2 hp => by
    have hne : t ≠ [] := fun e => by subst e; simp [u8s] at hp
    exact ⟨b, o + 1, h2 hne, hb, fun j u hu => by
      have := hcs (j + 1) u hu
      rw [show o + (j + 1) = o + 1 + j by omega] at this
      exact this⟩
  have HX := hide (show Calls Try.prog 67 #[.slice (some ⟨b, o, none⟩) 1 c] w.drew (NewT [x] w.drew) from clone_u8 (some ⟨b, o, none⟩) c [x] (by simp) w.drew hx)
  have HT := hide ht
  clear hcs hx ht hb
  by_cases hc : c = 1
  · subst hc
    have ht0 : t = [] := by cases t with | nil => rfl | cons _ _ => simp at hcap
    subst ht0
    have HT2 : Hid (Rd w.drew.heap.size w.drew (some ⟨b, o, none⟩) (u8s [])) := (HT.out (some ⟨b, o, none⟩) (fun h => absurd rfl h)).drew
    clear hcap hl
    go_enter Try.func72, Try.ntmps72
    go_wp2
    go_region_held3 (fun w' => True) (trivial)
      ((first
        | (go_at_call 67; (with_reducible refine HX.out.mono ?_); rintro e z1 ⟨A1, c1, rfl, ho1, hb1⟩)
        | (go_at_call 67; (with_reducible refine (clone_nil (some ⟨b, o, none⟩) 0 z1 (HT2.out.on hb1)).mono ?_); rintro e z2 ⟨A2, c2, rfl, ho2, hb2⟩)))
    go_wp2
    go_ret3
    exact ⟨A1, c1, A2, c2, rfl, own_on ho1 hb2, own_more ho2 hb1.size, below2 (Below.refl _ w).drew (below2 hb1 hb2 (Nat.le_refl _)) (Nat.le_refl _)⟩
  · have HT2 : Hid (Rd w.drew.heap.size w.drew (some ⟨b, o + 1, none⟩) (u8s t)) := (HT.out (some ⟨b, o + 1, none⟩) (fun _ => rfl)).drew
    have k1 : (1 : Int) ≤ (c : Int) := by omega
    have HLL := hide hl
    clear hl
    go_enter Try.func72, Try.ntmps72
    go_wp2
    go_region_held3 (fun w' => True) (trivial)
      ((first
        | (go_at_call 67; (with_reducible refine HX.out.mono ?_); rintro e z1 ⟨A1, c1, rfl, ho1, hb1⟩)
        | (go_at_call 67; (with_reducible refine (clone_u8 (some ⟨b, o + 1, none⟩) (c - 1) t HLL.out z1 (HT2.out.on hb1)).mono ?_); rintro e z2 ⟨A2, c2, rfl, ho2, hb2⟩)))
    go_wp2
    go_ret3
    exact ⟨A1, c1, A2, c2, rfl, own_on ho1 hb2, own_more ho2 hb1.size, below2 (Below.refl _ w).drew (below2 hb1 hb2 (Nat.le_refl _)) (Nat.le_refl _)⟩
/-! ### Get -/
def getOk (b : List Nat) : Bool := match b with | [] => false | x :: t => decide (x < 8 ∧ t.length ≤ 63)
def getP (b : List Nat) : Nat := if getOk b then b.headD 0 else 0
def getM (b : List Nat) : List Nat := if getOk b then b.tail else []
def getE (b : List Nat) : Nat := if getOk b then 0 else 130
def GetR (b : List Nat) (w : World) (e : Ending) (w' : World) : Prop :=
  ∃ A c, e = .returned (.tuple #[.int .i64 (getP b : Nat), .slice A (getM b).length c, .int .i64 (getE b : Nat)]) ∧ w'.ownsRow w.heap.size 5 1 (.slice A (getM b).length c) (getM b).length (u8s (getM b)) ∧ Below w.heap.size w w'
theorem getR_bad {b : List Nat} {w w' : World} (h : getOk b = false) (hb : Below w.heap.size w w') : GetR b w (.returned (.tuple #[.int .i64 0, .slice none 0 0, .int .i64 130])) w' := by
  unfold GetR getP getM getE
  rw [h]
  exact ⟨none, 0, rfl, World.ownsRow_nil _ _ _ _, hb⟩
set_option maxRecDepth 100000 in
set_option maxHeartbeats 1000000 in
theorem get_any (A : Option Addr) (c : Nat) (l : List Nat) (hcap : l.length ≤ c) (hl : l.length ≤ 140737488355328) (hby : Byt l) (w : World) (hA : Rd w.heap.size w A (u8s l)) :
    Calls Try.prog 40 #[.slice A l.length c] w (GetR l w) := by
  cases l with
  | nil =>
    have HC := hide (cut_none A c w)
    clear hA hcap hl
    go_enter Try.func40, Try.ntmps40
    go_wp2_with fail
    refine HC.out.mono ?_; rintro e w' ⟨rfl, rfl⟩
    go_wp2
    go_ret3
    exact getR_bad rfl (Below.refl _ _)
  | cons x t =>
    have HC := hide (cut_any A c x t hcap (by simp at hl; omega) w hA)
    have hx : x < 256 := hby x (by simp)
    have ht3 : t.length ≤ 140737488355328 := by simp at hl; omega
    clear hA hcap hl
    by_cases h63 : 63 < t.length
    · have HOK : Hid (getOk (x :: t) = false) := by show decide _ = false; simp; omega
      go_enter Try.func40, Try.ntmps40
      go_wp2_with fail
      refine HC.out.mono ?_; rintro e w1 ⟨A1, c1, A2, c2, rfl, ho1, ho2, hb⟩
      have HB := hide hb
      clear ho1 ho2 hb
      go_wp2
      go_ret3
      exact getR_bad HOK.out HB.out
    · by_cases h8 : x < 8
      · have HOK : Hid (getOk (x :: t) = true) := by show decide _ = true; simp; omega
        have HR := hide (fun W => right_any (x : Int) W)
        rw [show decide (0 ≤ (x : Int) ∧ (x : Int) < 8) = true by simp; omega] at HR
        go_enter Try.func40, Try.ntmps40
        go_wp2_with fail
        refine HC.out.mono ?_; rintro e w1 ⟨A1, c1, A2, c2, rfl, ho1, ho2, hb⟩
        obtain ⟨g1, rfl, _, _⟩ := own_where ho1 (by omega)
        have hc0 : w1.cell? ⟨g1, 0, none⟩ = some (.int .u8 (x : Int)) := own_cell ho1 rfl
        have HB := hide hb
        have HO2 := hide ho2
        clear ho1 ho2 hb
        go_wp2_with fail
        refine (HR.out _).mono ?_; rintro e w' ⟨rfl, rfl⟩
        go_wp2
        go_ret3
        unfold GetR getP getM getE
        rw [HOK.out]
        exact ⟨A2, c2, rfl, HO2.out, HB.out⟩
      · have HOK : Hid (getOk (x :: t) = false) := by show decide _ = false; simp; omega
        have HR := hide (fun W => right_any (x : Int) W)
        rw [show decide (0 ≤ (x : Int) ∧ (x : Int) < 8) = false by simp; omega] at HR
        go_enter Try.func40, Try.ntmps40
        go_wp2_with fail
        refine HC.out.mono ?_; rintro e w1 ⟨A1, c1, A2, c2, rfl, ho1, ho2, hb⟩
        obtain ⟨g1, rfl, _, _⟩ := own_where ho1 (by omega)
        have hc0 : w1.cell? ⟨g1, 0, none⟩ = some (.int .u8 (x : Int)) := own_cell ho1 rfl
        have HB := hide hb
        clear ho1 ho2 hb
        go_wp2_with fail
        refine (HR.out _).mono ?_; rintro e w' ⟨rfl, rfl⟩
        go_wp2
        go_ret3
        exact getR_bad HOK.out HB.out
set_option maxRecDepth 100000 in
set_option maxHeartbeats 1000000 in
theorem rget_any (A : Option Addr) (c : Nat) (l : List Nat) (hcap : l.length ≤ c) (hl : l.length ≤ 140737488355328) (hby : Byt l) (w : World) (hA : Rd w.heap.size w A (u8s l)) :
    Calls Try.prog 41 #[.slice A l.length c] w (GetR l w) := by
  cases l with
  | nil =>
    clear hA hcap hl
    go_enter Try.func41, Try.ntmps41
    go_wp2
    go_ret3
    exact getR_bad rfl (Below.refl _ _)
  | cons x t =>
    have hx : x < 256 := hby x (by simp)
    have ht3 : t.length ≤ 140737488355328 := by simp at hl; omega
    obtain ⟨b, o, rfl, hb, hcs⟩ := hA (by simp [u8s])
    have hc0 : w.cell? ⟨b, o, none⟩ = some (.int .u8 (x : Int)) := hcs 0 _ rfl
    have HT : Hid (∀ A2, (t ≠ [] → A2 = some (⟨b, o + 1, none⟩ : Addr)) → Rd w.heap.size w A2 (u8s t)) := fun A2 h2 hp => by
      have hne : t ≠ [] := fun e => by subst e; simp [u8s] at hp
      exact ⟨b, o + 1, h2 hne, hb, fun j u hu => by
        have := hcs (j + 1) u hu
        rw [show o + (j + 1) = o + 1 + j by omega] at this
        exact this⟩
    have h1l : ¬ ((t.length : Int) + 1) < 1 := by omega
    have hcap2 : t.length + 1 ≤ c := hcap
    clear hcs hl hcap
    by_cases h63 : 64 < t.length + 1
    · have HOK : Hid (getOk (x :: t) = false) := by show decide _ = false; simp; omega
      have h64 : (64 : Int) < (t.length : Int) + 1 := by omega
      clear hcap2
      go_enter Try.func41, Try.ntmps41
      go_wp2
      go_ret3
      exact getR_bad HOK.out (Below.refl _ _)
    · have h64 : ¬ (64 : Int) < (t.length : Int) + 1 := by omega
      by_cases h8 : 7 < x
      · have HOK : Hid (getOk (x :: t) = false) := by show decide _ = false; simp; omega
        have h7 : (7 : Int) < (x : Int) := by omega
        clear hcap2 h63
        go_enter Try.func41, Try.ntmps41
        go_wp2
        go_ret3
        exact getR_bad HOK.out (Below.refl _ _)
      · have HOK : Hid (getOk (x :: t) = true) := by show decide _ = true; simp; omega
        have h7 : ¬ (7 : Int) < (x : Int) := by omega
        have HLL := hide ht3
        have i0 : (0 : Int) < (t.length : Int) + 1 := by omega
        by_cases hc : c = 1
        · subst hc
          have ht0 : t = [] := by cases t with | nil => rfl | cons _ _ => simp at hcap2
          subst ht0
          have HT2 : Hid (Rd w.drew.heap.size w.drew (some ⟨b, o, none⟩) (u8s [])) := (HT.out (some ⟨b, o, none⟩) (fun h => absurd rfl h)).drew
          clear hcap2 h63 h8
          go_enter Try.func41, Try.ntmps41
          go_wp2
          go_region_held3 (fun w' => w'.cell? ⟨b, o, none⟩ = some (.int .u8 (x : Int))) (first | exact keep1 hb1 hb hc0 | go_keep)
            ((first
              | (go_at_call 30; (with_reducible refine (copy_nil (some ⟨b, o, none⟩) 0 w.drew HT2.out).mono ?_); rintro e z1 ⟨A1, c1, rfl, ho1, hb1⟩)))
          go_wp2
          go_ret3
          unfold GetR getP getM getE
          rw [HOK.out]
          rw [i64_wrap_nat x (by omega)]
          exact ⟨A1, c1, rfl, ho1, below2 (Below.refl _ w).drew hb1 (Nat.le_refl _)⟩
        · have HT2 : Hid (Rd w.drew.heap.size w.drew (some ⟨b, o + 1, none⟩) (u8s t)) := (HT.out (some ⟨b, o + 1, none⟩) (fun _ => rfl)).drew
          clear hcap2 h63 h8
          go_enter Try.func41, Try.ntmps41
          go_wp2
          go_region_held3 (fun w' => w'.cell? ⟨b, o, none⟩ = some (.int .u8 (x : Int))) (first | exact keep1 hb1 hb hc0 | go_keep)
            ((first
              | (go_at_call 30; (with_reducible refine (copy_u8 (some ⟨b, o + 1, none⟩) (c - 1) t HLL.out w.drew HT2.out).mono ?_); rintro e z1 ⟨A1, c1, rfl, ho1, hb1⟩)))
          go_wp2
          go_ret3
          unfold GetR getP getM getE
          rw [HOK.out]
          rw [i64_wrap_nat x (by omega)]
          exact ⟨A1, c1, rfl, ho1, below2 (Below.refl _ w).drew hb1 (Nat.le_refl _)⟩
end Go.Proofs.Ytfcappddncnglaa
