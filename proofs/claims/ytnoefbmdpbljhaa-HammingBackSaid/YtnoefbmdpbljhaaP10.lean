/- The plain law of layer 10: half bytes as words that can be mended, and the document's answer. No conditions. -/
import Derived.Lib.BitFns
namespace Go.Proofs.Ytnoefbmdpbljhaa.Hm
def odd (x : Nat) : Nat := Lib.onesCount x % 2
def told (k : Nat) : Nat := [170, 204, 240].getD k 0
def pl (k : Nat) : Nat := [3, 5, 6, 7].getD k 0
def sp (x : Nat) : Nat → Nat
  | 0 => 0
  | k + 1 => sp x k ||| (x / 2 ^ k % 2) * 2 ^ pl k
def ga (x : Nat) : Nat → Nat
  | 0 => 0
  | k + 1 => ga x k ||| (x / 2 ^ pl k % 2) * 2 ^ k
def fi (x : Nat) : Nat → Nat
  | 0 => x
  | k + 1 => fi x k ||| odd (fi x k &&& told k) * 2 ^ (2 ^ k)
def filled (x : Nat) : Nat := fi x 3 ||| odd (fi x 3)
def word (x : Nat) : Nat := filled (sp x 4)
def at_ (x : Nat) : Nat → Nat
  | 0 => 0
  | k + 1 => at_ x k ||| odd (x &&& told k) * 2 ^ k
/-- a word's half, how many bits were mended, the error. -/
def half (x : Nat) : Nat × Nat × Nat :=
  if at_ x 3 = 0 ∧ odd x = 0 then (ga x 4, 0, 0) else if odd x = 0 then (0, 0, 100) else (ga (x ^^^ 2 ^ at_ x 3) 4, 1, 0)
def apart (a b : Nat) : Nat := Lib.onesCount (a ^^^ b)
/-! ### the document -/
def bit (n k : Nat) : Nat := n / 2 ^ k % 2
def rword (h : Nat) : Nat :=
  let a := bit h 0; let b := bit h 1; let c := bit h 2; let d := bit h 3
  let one := (a + b + d) % 2; let two := (a + c + d) % 2; let four := (b + c + d) % 2
  let all := (a + b + c + d + one + two + four) % 2
  all + 2 * one + 4 * two + 8 * a + 16 * four + 32 * b + 64 * c + 128 * d
def ra (a b : Nat) : Nat → Nat
  | 0 => 0
  | k + 1 => ra a b k + (if bit a k = bit b k then 0 else 1)
def rapart (a b : Nat) : Nat := ra a b 8
/-- the first half from h on, of those n, whose word is apart at one place at most. -/
def rhalfFrom (x : Nat) (h : Nat) : Nat → Nat × Nat × Nat
  | 0 => (0, 0, 100)
  | n + 1 => if rapart (rword h) x ≤ 1 then (h, rapart (rword h) x, 0) else rhalfFrom x (h + 1) n
def rhalf (x : Nat) : Nat × Nat × Nat := rhalfFrom x 0 16
/-! ### facts, by reckoning -/
set_option maxRecDepth 100000
theorem odd_lt (x : Nat) : odd x < 2 := Nat.mod_lt _ (by omega)
theorem told_lt : ∀ k : Fin 3, told k.val < 256 := by decide +kernel
theorem sp_lt : ∀ x : Fin 16, ∀ k : Fin 5, sp x.val k.val < 256 := by decide +kernel
theorem ga_lt : ∀ x : Fin 256, ∀ k : Fin 5, ga x.val k.val < 16 := by decide +kernel
theorem fi_lt : ∀ x : Fin 256, ∀ k : Fin 4, fi x.val k.val < 256 := by decide +kernel
theorem filled_lt : ∀ x : Fin 256, filled x.val < 256 := by decide +kernel
theorem word_lt : ∀ x : Fin 16, word x.val < 256 := by decide +kernel
theorem at_lt : ∀ x : Fin 256, ∀ k : Fin 4, at_ x.val k.val < 8 := by decide +kernel
theorem words : ∀ x : Fin 16, word x.val = rword x.val := by decide +kernel
theorem rword_lt : ∀ x : Fin 16, rword x.val < 256 := by decide +kernel
theorem halves : ∀ x : Fin 256, half x.val = rhalf x.val := by decide +kernel
theorem half_ok : ∀ x : Fin 256, (half x.val).1 < 16 ∧ (half x.val).2.1 ≤ 1 ∧ ((half x.val).2.2 = 0 ∨ half x.val = (0, 0, 100)) := by decide +kernel
theorem half_word : ∀ a : Fin 16, half (word a.val) = (a.val, 0, 0) := by decide +kernel
theorem half_one : ∀ a : Fin 16, ∀ k : Fin 8, half (word a.val ^^^ 2 ^ k.val) = (a.val, 1, 0) := by decide +kernel
theorem half_two : ∀ a : Fin 16, ∀ k : Fin 8, ∀ j : Fin 8, k ≠ j → half (word a.val ^^^ 2 ^ k.val ^^^ 2 ^ j.val) = (0, 0, 100) := by decide +kernel
theorem far : ∀ a : Fin 16, ∀ b : Fin 16, a ≠ b → 4 ≤ apart (word a.val) (word b.val) := by decide +kernel
theorem pop_ra : ∀ x : Fin 256, Lib.onesCount x.val = ra x.val 0 8 := by decide +kernel
theorem bit_xor (a b k : Nat) : (bit a k = bit b k) ↔ bit (a ^^^ b) k = bit 0 k := by
  have h : ∀ n, bit n k = (n.testBit k).toNat := fun n => by
    unfold bit
    rw [Nat.testBit_eq_decide_div_mod_eq]
    have := Nat.mod_lt (n / 2 ^ k) (show 0 < 2 by omega)
    by_cases h : n / 2 ^ k % 2 = 1
    · simp [h]
    · have : n / 2 ^ k % 2 = 0 := by omega
      simp [this]
  rw [h, h, h, h, Nat.testBit_xor, Nat.zero_testBit]
  cases a.testBit k <;> cases b.testBit k <;> simp
theorem ra_xor (a b : Nat) (k : Nat) : ra a b k = ra (a ^^^ b) 0 k := by
  induction k with
  | zero => rfl
  | succ k ih =>
    simp only [ra, ih]
    congr 1
    by_cases h : bit a k = bit b k
    · rw [if_pos h, if_pos ((bit_xor a b k).1 h)]
    · rw [if_neg h, if_neg (fun e => h ((bit_xor a b k).2 e))]
theorem aparts (a b : Nat) (ha : a < 256) (hb : b < 256) : apart a b = rapart a b := by
  unfold apart rapart
  rw [ra_xor]
  exact pop_ra ⟨a ^^^ b, Nat.xor_lt_two_pow (n := 8) ha hb⟩
end Go.Proofs.Ytnoefbmdpbljhaa.Hm
