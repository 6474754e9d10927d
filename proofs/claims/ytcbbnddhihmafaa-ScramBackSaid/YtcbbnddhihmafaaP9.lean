/- The plain law of layer 9: what the row of bits is, in numbers. No conditions. -/
namespace Go.Proofs.Ytcbbnddhihmafaa.Sc
def stepB (s : Nat) : Nat := (s / 16384 + s / 8192) % 2
def stepN (s : Nat) : Nat := (2 * s + stepB s) % 32768
def own (n : Int) : Nat := (n % 32768).toNat
theorem own_lt (n : Int) : own n < 32768 := by unfold own; omega
theorem stepN_lt (s : Nat) : stepN s < 32768 := by unfold stepN; omega
theorem stepB_lt (s : Nat) : stepB s < 2 := by unfold stepB; omega
theorem bit_eq (s : Nat) : ((s / 16384) ^^^ (s / 8192)) % 2 = stepB s := by
  have h1 := Nat.xor_mod_two_pow (a := s / 16384) (b := s / 8192) (n := 1)
  rw [Nat.pow_one] at h1
  rw [h1]
  unfold stepB
  rcases Nat.mod_two_eq_zero_or_one (s / 16384) with e | e <;> rcases Nat.mod_two_eq_zero_or_one (s / 8192) with f | f <;> simp [e, f, Nat.add_mod]
theorem next_eq (s : Nat) : ((2 * s) ||| stepB s) % 32768 = stepN s := by
  have := Nat.two_pow_add_eq_or_of_lt (i := 1) (b := stepB s) (stepB_lt s) s
  rw [Nat.pow_one] at this
  rw [← this]; rfl
/-- n steps on. -/
def go : Nat → Nat → Nat
  | 0, s => s
  | n + 1, s => stepN (go n s)
theorem go_lt (n s : Nat) (h : s < 32768) : go n s < 32768 := by cases n <;> simp [go, h, stepN_lt]
theorem go_add (m n s : Nat) : go (m + n) s = go m (go n s) := by
  induction m with
  | zero => simp [go]
  | succ m ih => rw [Nat.succ_add]; simp [go, ih]
theorem zero_iff (s : Nat) (h : s < 32768) : stepN s = 0 ↔ s = 0 := by
  unfold stepN stepB; omega
theorem go_zero (n s : Nat) (h : s < 32768) : go n s = 0 ↔ s = 0 := by
  induction n with
  | zero => simp [go]
  | succ n ih => simp only [go]; rw [zero_iff _ (go_lt n s h), ih]
/-- the bits gathered over k steps, from c on. -/
def gat : Nat → Nat → Nat → Nat
  | 0, c, _ => c
  | k + 1, c, s => 2 * gat k c s + stepB (go k s)
theorem gat_lt (k s : Nat) : gat k 0 s < 2 ^ k := by
  induction k with
  | zero => simp [gat]
  | succ k ih => have := stepB_lt (go k s); simp only [gat, Nat.pow_succ]; omega
/-- a byte of the row. -/
def oct (s : Nat) : Nat := gat 8 0 s
theorem oct_lt (s : Nat) : oct s < 256 := gat_lt 8 s
/-- bytes of the row. -/
def stream (s n : Nat) : List Nat := (List.range n).map fun i => oct (go (8 * i) s)
theorem stream_length (s n : Nat) : (stream s n).length = n := by simp [stream]
theorem stream_succ (s n : Nat) : stream s (n + 1) = stream s n ++ [oct (go (8 * n) s)] := by simp [stream, List.range_succ]
def doN (s : Nat) (b : List Nat) : List Nat := List.zipWith (· ^^^ ·) (stream s b.length) b
end Go.Proofs.Ytcbbnddhihmafaa.Sc
