/- Layer 28: the law GiverDoes, walked. No conditions. -/
import Derived.Test.YtfcappddncnglaaGivI
import Derived.Test.YtfcappddncnglaaQueN
import Derived.Test.YtfcappddncnglaaNonC
import Derived.Deep.CutRange
namespace Go.Proofs.Ytfcappddncnglaa
open Go.RowKit No
set_option linter.unusedVariables false
attribute [local go_sem ↓] Go.wp_at_zero Go.wp_at_succ

/-- both givers, off one another. -/
structure BothG (w0 w : World) (B2 gx gs gy gt room : Nat) (L : List Nat) (s : Gst) (F G : Nat → Prop) : Prop where
  m : Gv w w0.heap.size gx gs room L s F
  r : RGv w B2 gy gt room L s G
  off : Off F G
  lo : w0.heap.size ≤ B2
  bel : Below w0.heap.size w0 w
section
variable {w0 w w1 w2 : World} {B2 gx gs gy gt room : Nat} {L : List Nat} {s s' : Gst} {F F' G G' : Nat → Prop}
theorem BothG.on (h : BothG w0 w B2 gx gs gy gt room L s F G) (hb : Below w.heap.size w w2) : BothG w0 w2 B2 gx gs gy gt room L s F G := ⟨h.m.on hb, h.r.on hb, h.off, h.lo, below2 h.bel hb (Nat.le_refl _)⟩
theorem BothG.mid (h : BothG w0 w B2 gx gs gy gt room L s F G) (ht : Turn F F' w w1) : RGv w1 B2 gy gt room L s G := h.r.kept (ht.kept h.off h.r.foot) ht.size
theorem BothG.bel1 (h : BothG w0 w B2 gx gs gy gt room L s F G) (ht : Turn F F' w w1) : Below w0.heap.size w0 w1 := ht.below h.bel h.m.foot h.bel.size
theorem BothG.step (h : BothG w0 w B2 gx gs gy gt room L s F G) (ht : Turn F F' w w1) (hm : Gv w1 w0.heap.size gx gs room L s' F') (ht2 : Turn G G' w1 w2) (hr : RGv w2 B2 gy gt room L s' G') : BothG w0 w2 B2 gx gs gy gt room L s' F' G' := by
  have o1 : Off F' G := ht.off h.off h.r.foot
  have r1 := h.mid ht
  have o2 : Off G' F' := ht2.off o1.symm hm.foot
  exact ⟨hm.kept (ht2.kept o1.symm hm.foot) ht2.size, hr, o2.symm, h.lo, ht2.below (h.bel1 ht) (r1.foot.down h.lo) (Nat.le_trans h.bel.size ht.size)⟩
theorem BothG.own {v : Value} {n : Nat} {xs : List Value} (h : BothG w0 w B2 gx gs gy gt room L s F G) (ho : w1.ownsRow w.heap.size 5 1 v n xs) (ht2 : Turn G G' w1 w2) : w2.ownsRow w.heap.size 5 1 v n xs :=
  own_keep ho fun k hk => ht2.block k (own_block_lt ho hk).2 fun hg => by have := (h.r.foot k hg).2; have := (own_block_lt ho hk).1; omega
/-- packets that the first has told are there behind the second's turn. -/
theorem BothG.toks {A : Option Addr} {ts : List Tok} (h : BothG w0 w B2 gx gs gy gt room L s F G) (htk : Toks w1 A ts) (hn : NewA A w F') (hs : w.heap.size ≤ w1.heap.size) (ht2 : Turn G G' w1 w2) : Toks w2 A ts := fun k t hk => by
  obtain ⟨b, o, ha, hl, hc⟩ := htk k t hk
  have hng : ¬ G b := fun hg => by have := (h.r.foot b hg).2; have := (hn b o none ha).1; omega
  exact ⟨b, o, ha, Nat.lt_of_lt_of_le hl ht2.size, fun j v hv => (World.cell?_of_block (w := w1) (ht2.block b hl hng)).trans (hc j v hv)⟩
end
theorem takeS_few (room : Nat) (L : List Nat) (s : Gst) (p : Pk) : (takeS room L s p).ent ≤ s.ent + 1 ∧ (takeS room L s p).ret ≤ s.ret + 1 ∧ (takeS room L s p).U.length ≤ s.U.length + 1 := by
  unfold takeS entS chalS
  split
  · split
    · split
      · exact ⟨Nat.le_refl _, Nat.le_succ _, Nat.le_succ _⟩
      · exact ⟨Nat.le_succ _, Nat.le_succ _, Nat.le_succ _⟩
    · exact ⟨Nat.le_succ _, Nat.le_succ _, Nat.le_succ _⟩
  · split
    · split
      · exact ⟨Nat.le_succ _, Nat.le_succ _, Nat.le_succ _⟩
      · split
        · exact ⟨Nat.le_succ _, Nat.le_succ _, Nat.le_succ _⟩
        · exact ⟨Nat.le_succ _, Nat.le_succ _, by simp⟩
    · exact ⟨Nat.le_succ _, Nat.le_succ _, Nat.le_succ _⟩
theorem recS_few (s : Gst) : (recS s).ent ≤ s.ent + 1 ∧ (recS s).ret ≤ s.ret + 1 ∧ (recS s).U.length ≤ s.U.length + 1 := by
  unfold recS
  split
  · exact ⟨Nat.le_succ _, Nat.le_succ _, Nat.le_succ _⟩
  · exact ⟨Nat.le_succ _, Nat.le_refl _, Nat.le_succ _⟩
theorem chalT_len (L : List Nat) (s : Gst) (T : Nat) : (chalT L s T).length = 1 := rfl
theorem knownT_len (s : Gst) : (knownT s).length ≤ 1 := by unfold knownT; split <;> simp
theorem takeT_len (L : List Nat) (s : Gst) (p : Pk) : (takeT L s p).length ≤ 1 := by
  unfold takeT
  have h1 := knownT_len s
  split
  · split
    · simp
    · split
      · exact h1
      · simp
  · split
    · split
      · exact h1
      · rw [chalT_len]; omega
    · simp
theorem recT_len (s : Gst) : (recT s).length ≤ 1 := by
  unfold recT
  split
  · simp
  · exact knownT_len _
set_option maxRecDepth 100000 in
theorem gdoes_bad (r : Int) {w : World} {D : Option Addr} {cd : Nat} {L : List Nat} (hd : InU w D cd L) {a : Option Addr} {c : Nat} {l : List (Int × Pk)} (hr : r < 1 ∨ 16 < r) (hl : InA28 w a c l) :
    Calls Try.prog 10 #[.int .i64 r, .slice D L.length cd, .slice a l.length c] w fun e w' => e = .returned (.bool true) ∧ Below w.heap.size w w' := by
  have HH := hide (huge28 hl D L.length cd hd.len)
  have HN := hide (src_new D cd L hd.reach w hd.rd)
  have HM := hide (fun W (hb : Below w.heap.size w W) => rsrc_new D cd L hd.reach W (hd.rd.on hb))
  have HX := hide (fun s W => gv_bad r hr s W)
  have HY := hide (fun s W => rgv_bad r hr s W)
  have hll : l.length ≤ 9223372036854775807 := Nat.le_trans hl.cap hl.max
  clear hl hr hd
  go_enter Try.func10, Try.ntmps10
  go_wp2_with fail
  refine HH.out.mono ?_; rintro e w' ⟨b, rfl, rfl, _⟩
  cases b
  · go_wp2_with fail
    refine HN.out.mono ?_; rintro e w1 ⟨gs, Fs, rfl, _, hb1⟩
    have HB1 := hide hb1
    have HM1 := hide (HM.out w1 hb1)
    clear hb1 HM HN
    go_wp2_with fail
    refine (HX.out _ _).mono ?_; rintro e w' ⟨rfl, rfl⟩
    go_wp2_with fail
    refine HM1.out.mono ?_; rintro e w2 ⟨gt, Gs, rfl, _, hb2⟩
    have HB2 := hide (below2 HB1.out hb2 (Nat.le_refl _))
    clear hb2 HM1
    go_wp2_with fail
    refine (HY.out _ _).mono ?_; rintro e w' ⟨rfl, rfl⟩
    go_wp2_with fail
    refine (num28 _ _).mono ?_; rintro e w' ⟨rfl, rfl⟩
    go_wp2
    go_loop [11] (fun i => i = .int .i64 0) (fun _ => 0)
    case atStart => rfl
    case round =>
      subst hrel
      by_cases h0 : 0 < l.length
      · go_wp2_with fail
        refine (live28 _).mono ?_; rintro e w' ⟨rfl, hb⟩
        go_wp2
        go_ret
        exact ⟨rfl, below2 HB2.out hb (Nat.le_refl _)⟩
      · go_wp2_with fail
        refine (live28 _).mono ?_; rintro e w' ⟨rfl, hb⟩
        go_wp2
        go_ret
        exact ⟨rfl, below2 HB2.out hb (Nat.le_refl _)⟩
  · go_wp2_with fail
    refine (live28 _).mono ?_; rintro e w' ⟨rfl, hb⟩
    go_wp2
    go_ret
    exact ⟨rfl, hb⟩
end Go.Proofs.Ytfcappddncnglaa
