/- Layer 26: live, Apart; the law NonceApart, walked. No conditions. -/
import Derived.Test.YtcbbnddhihmafaaNonD
namespace Go.Proofs.Ytcbbnddhihmafaa
open Go.RowKit No
set_option linter.unusedVariables false

theorem lit_u64 (w : World) (l : List Nat) : Rd (w.alloc (.cells (u64s l).toArray 39)).heap.size (w.alloc (.cells (u64s l).toArray 39)) (some ⟨w.heap.size, 0, none⟩) (u64s l) :=
  (rd_lit w (u64s l) _).more (Blk.new w 39 (u64s l)).lt
theorem below_lit (w : World) (o : Obj) : Below w.heap.size w (w.alloc o) := (Below.refl _ _).alloc (Nat.le_refl _) o

/-- whether no two are the same. -/
def ApartR (l : List Nat) (w : World) (e : Ending) (w' : World) : Prop :=
  ((∃ k i, IsFirst l k i ∧ e = .returned (.bool false)) ∨ (l.Nodup ∧ e = .returned (.bool true))) ∧ Below w.heap.size w w'
theorem apart_any (A : Option Addr) (c : Nat) (l : List Nat) (h63 : l.length ≤ 17592186044416) (hf : ∀ x ∈ l, x < 18446744073709551616) (w : World) (hA : Rd w.heap.size w A (u64s l)) :
    Calls Try.prog 51 #[.slice A l.length c] w (ApartR l w) := by
  have HF := hide (first_any A c l h63 hf w hA)
  clear hA h63 hf
  go_enter Try.func51, Try.ntmps51
  go_wp2_with fail
  refine HF.out.mono ?_; rintro e w1 ⟨⟨k, i, h, rfl⟩ | ⟨h, rfl⟩, hb⟩
  · have HH := hide h
    clear h
    go_wp2
    go_ret
    exact ⟨.inl ⟨k, i, HH.out, rfl⟩, hb⟩
  · have HH := hide h
    clear h
    go_wp2
    go_ret
    exact ⟨.inr ⟨HH.out, rfl⟩, hb⟩

theorem isf : IsFirst [1, 2, 1, 2] 0 2 := ⟨by decide, by decide, rfl, by decide⟩
theorem isf_all {w w' : World} {e : Ending} (h : FirstR [1, 2, 1, 2] w e w') : e = .returned (.tuple #[.int .i64 0, .int .i64 2, .bool true]) ∧ Below w.heap.size w w' := by
  obtain ⟨⟨k, i, h, rfl⟩ | ⟨h, rfl⟩, hb⟩ := h
  · obtain ⟨rfl, rfl⟩ := first_one h isf
    exact ⟨rfl, hb⟩
  · exact absurd h (by decide)
theorem apart_nil {w w' : World} {e : Ending} (h : ApartR [] w e w') : e = .returned (.bool true) ∧ Below w.heap.size w w' := by
  obtain ⟨⟨k, i, h, rfl⟩ | ⟨h, rfl⟩, hb⟩ := h
  · have := h.2.1; simp at this
  · exact ⟨rfl, hb⟩

theorem live26 (w : World) : Calls Try.prog 48 #[] w fun e w' => e = .returned (.bool true) ∧ Below w.heap.size w w' := by
  go_enter Try.func48, Try.ntmps48
  go_wp2_with fail
  refine (src_new (some ⟨w.heap.size, 0, none⟩) 1 [5] (by decide) _ (lit_u64 w [5])).mono ?_; rintro e w1 ⟨g, F, rfl, hs, hb1⟩
  have hb1' := below2 (below_lit w _) hb1 (Nat.le_refl _)
  have HB1 := hide hb1'
  have HS := hide hs
  clear hb1 hb1' hs
  go_wp2_with fail
  refine (first_any (some ⟨w1.heap.size, 0, none⟩) 4 [1, 2, 1, 2] (by decide) (by decide) _ (lit_u64 w1 [1, 2, 1, 2])).mono ?_; intro e w2 hfr; obtain ⟨rfl, hb2⟩ := isf_all hfr
  have hb12 := below2 (below_lit w1 _) hb2 (Nat.le_refl _)
  have hs2 := HS.out.on hb12
  have hB2 := below2 HB1.out hb12 (Nat.le_refl _)
  have HN := hide (src_next w2 _ g [5] [] F hs2 (by decide) (by decide))
  have HB2 := hide hB2
  have HF2 := hide (hs2.1.down (below_lit w _).size)
  clear hb2 hb12 hs2 hfr hB2
  go_wp2_with fail
  refine HN.out.mono ?_; rintro e w3 ⟨F', rfl, hs3, ht3⟩
  have hB3 := ht3.below HB2.out HF2.out HB2.out.size
  have HN3 := hide (src_next w3 _ g [5] _ F' hs3 (by decide) (by decide))
  have HF3 := hide (hs3.1.down (below_lit w _).size)
  have HB3 := hide hB3
  clear hs3 ht3 hB3
  have e1 : nextN [5] (List.length ([] : List Nat)) = 5 := rfl
  have e2 : nextN [5] (([] : List Nat) ++ [nextN [5] (List.length ([] : List Nat))]).length = 9223372036854775808 := rfl
  rw [e1]
  go_wp2_with fail
  refine HN3.out.mono ?_; rintro e w4 ⟨F'', rfl, hs4, ht4⟩
  rw [e2]
  have hB4 := ht4.below HB3.out HF3.out HB3.out.size
  have HB4 := hide hB4
  clear hs4 ht4 hB4
  go_wp2_with fail
  refine (apart_any none 0 [] (by decide) (by decide) _ (Rd.nil _ _ _)).mono ?_; intro e w5 hap; obtain ⟨rfl, hb5⟩ := apart_nil hap
  go_wp2
  go_ret
  exact ⟨rfl, below2 HB4.out hb5 (Nat.le_refl _)⟩

theorem walk_NonceApart (w : World) (a : Option Addr) (c : Nat) (l : List Nat) (hi : InU w a c l) :
    Calls Try.prog 13 #[.slice a l.length c] w fun e w' => e = .returned (.bool true) ∧ Below w.heap.size w w' := by
  have hll := hi.reach
  by_cases hlen : 200 < l.length
  · clear hi
    go_enter Try.func13, Try.ntmps13
    go_wp2_with (go_at_call 48; refine (live26 _).mono ?_; rintro e w' ⟨rfl, hb⟩)
    go_ret
    exact ⟨rfl, hb⟩
  · have HI := hide hi
    have HF := hide (first_any a c l hll hi.fits w hi.rd)
    clear hi
    go_enter Try.func13, Try.ntmps13
    go_wp2_with fail
    refine HF.out.mono ?_; rintro e w1 ⟨h1, hb1⟩
    have HR := hide (rfirst_any a c l hll w1 (HI.out.rd.on hb1))
    have HB1 := hide hb1
    clear hb1 HF
    rcases h1 with ⟨k, i, h1, rfl⟩ | ⟨h1, rfl⟩
    · have H1 := hide h1
      clear h1
      go_wp2_with fail
      refine HR.out.mono ?_; rintro e w2 ⟨h2, hb2⟩
      have hB2 := below2 HB1.out hb2 (Nat.le_refl _)
      have HA := hide (apart_any a c l hll HI.out.fits w2 (HI.out.rd.on hB2))
      have HB2 := hide hB2
      clear hb2 hB2 HR
      rcases h2 with ⟨k', i', h2, rfl⟩ | ⟨h2, rfl⟩
      · obtain ⟨rfl, rfl⟩ := first_one H1.out h2
        clear h2
        go_wp2_with fail
        refine HA.out.mono ?_; rintro e w3 ⟨⟨k3, i3, h3, rfl⟩ | ⟨h3, rfl⟩, hb3⟩
        · have HB3 := hide (below2 HB2.out hb3 (Nat.le_refl _))
          clear h3 hb3 HA
          go_wp2_with fail
          refine (live26 _).mono ?_; rintro e w4 ⟨rfl, hb4⟩
          go_wp2
          go_ret
          exact ⟨rfl, below2 HB3.out hb4 (Nat.le_refl _)⟩
        · exact (first_not H1.out h3).elim
      · exact (first_not H1.out h2).elim
    · have H1 := hide h1
      clear h1
      go_wp2_with fail
      refine HR.out.mono ?_; rintro e w2 ⟨h2, hb2⟩
      have hB2 := below2 HB1.out hb2 (Nat.le_refl _)
      have HA := hide (apart_any a c l hll HI.out.fits w2 (HI.out.rd.on hB2))
      have HB2 := hide hB2
      clear hb2 hB2 HR
      rcases h2 with ⟨k', i', h2, rfl⟩ | ⟨h2, rfl⟩
      · exact (first_not h2 H1.out).elim
      · clear h2
        go_wp2_with fail
        refine HA.out.mono ?_; rintro e w3 ⟨⟨k3, i3, h3, rfl⟩ | ⟨h3, rfl⟩, hb3⟩
        · exact (first_not h3 H1.out).elim
        · have HB3 := hide (below2 HB2.out hb3 (Nat.le_refl _))
          clear h3 hb3 HA
          go_wp2_with fail
          refine (live26 _).mono ?_; rintro e w4 ⟨rfl, hb4⟩
          go_wp2
          go_ret
          exact ⟨rfl, below2 HB3.out hb4 (Nat.le_refl _)⟩
end Go.Proofs.Ytcbbnddhihmafaa
