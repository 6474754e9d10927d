/- The plain law behind GiverOnce: what is told, used, entered. No conditions. -/
import Derived.Test.YtfcappddncnglaaGivJ
namespace Go.Proofs.Ytfcappddncnglaa
open Go.RowKit No
set_option linter.unusedVariables false

def updF (f : Nat → Option Nat) (c : Nat) (v : Option Nat) (i : Nat) : Option Nat := if i = c then v else f i
/-- what is told, behind a packet; behind some. -/
def tell1 (f : Nat → Option Nat) (t : Tok) : Nat → Option Nat := if t.1 = 1 then updF f t.2.2.1 (some t.2.1) else f
def tells (f : Nat → Option Nat) (ts : List Tok) : Nat → Option Nat := ts.foldl tell1 f
/-- an act: what it makes of the giver, what it tells. -/
def actS (L : List Nat) (d : Int) (p : Pk) (s : Gst) : Gst := if d = 0 then takeS 3 L s p else if d = 1 then recS s else s
def actT (L : List Nat) (d : Int) (p : Pk) (s : Gst) : List Tok := if d = 0 then takeT L s p else if d = 1 then recT s else []
structure Pl (s : Gst) (f : Nat → Option Nat) (S ins : List Nat) : Prop where
  len : ins.length = s.ent
  ret : s.ret + s.q.length = s.ent
  opn : s.opn = true → f s.c = some s.t ∧ s.c ∉ S ∧ s.c ∈ s.U
  used : ∀ c ∈ S, c ∈ s.U
  last : s.has = true → 0 < s.ent ∧ ins[s.ent - 1]? = some s.last
  no : s.has = false → s.ent = 0
theorem Pl.new (L : List Nat) : Pl (newG L []) (fun _ => none) [] [] :=
  ⟨rfl, rfl, (fun h => by cases h), (fun c h => by cases h), (fun h => by cases h), (fun _ => rfl)⟩
section
variable {s : Gst} {f : Nat → Option Nat} {S ins : List Nat}
/-- what is known was returned. -/
theorem Pl.known (h : Pl s f S ins) (hh : s.has = true) : ∀ t ∈ knownT s, t.1 = 3 ∧ t.2.1 ∈ ins.take s.ret := by
  intro t ht
  unfold knownT at ht
  by_cases hq : 0 < s.q.length
  · rw [if_pos hq] at ht; cases ht
  · rw [if_neg hq] at ht
    simp at ht
    subst ht
    obtain ⟨h0, hl⟩ := h.last hh
    have hr : s.ret = s.ent := by have := h.ret; omega
    refine ⟨rfl, List.mem_of_getElem? (i := s.ent - 1) ?_⟩
    rw [List.getElem?_take, if_pos (by omega), hl]
theorem tells_known (f : Nat → Option Nat) (s : Gst) : tells f (knownT s) = f := by
  unfold knownT
  split
  · rfl
  · rfl
theorem Pl.recv (h : Pl s f S ins) : Pl (recS s) f S ins := by
  unfold recS
  by_cases hq : s.q.length = 0
  · rw [if_pos hq]; exact h
  · rw [if_neg hq]
    refine ⟨h.len, ?_, h.opn, h.used, h.last, h.no⟩
    have := h.ret
    show s.ret + 1 + s.q.tail.length = s.ent
    rw [List.length_tail]; omega
theorem Pl.rec_ack (h : Pl s f S ins) : ∀ t ∈ recT s, t.1 = 3 ∧ t.2.1 ∈ ins.take (recS s).ret := by
  intro t ht
  unfold recT at ht
  by_cases hq : s.q.length = 0
  · rw [if_pos hq] at ht; cases ht
  · rw [if_neg hq] at ht
    have hh : (recS s).has = true := by
      have e : (recS s).has = s.has := by unfold recS; rw [if_neg hq]
      rw [e]
      cases hs : s.has with
      | true => rfl
      | false => have := h.no hs; have := h.ret; omega
    exact h.recv.known hh t ht
theorem recS_ent (s : Gst) : (recS s).ent = s.ent := by unfold recS; split <;> rfl
theorem pushL_len {room : Nat} {ms : List (List Nat)} {m : List Nat} (h : pushE room ms m = 0) : (pushL room ms m).length = ms.length + 1 := by
  unfold pushE at h
  unfold pushL
  by_cases h1 : 64 < m.length
  · rw [if_pos h1] at h; cases h
  · rw [if_neg h1] at h ⊢
    by_cases h2 : room ≤ ms.length
    · rw [if_pos h2] at h; cases h
    · rw [if_neg h2]; simp
theorem Pl.ent_enter (h : Pl s f S ins) (p : Pk) (hlt : s.ent < (entS 3 s p).ent) : entHit s p = true ∧ f p.C = some p.T ∧ p.C ∉ S ∧ (entS 3 s p).ent = s.ent + 1 ∧ Pl (entS 3 s p) f (p.C :: S) (ins ++ [p.T]) := by
  unfold entS at hlt ⊢
  by_cases hh : entHit s p = true
  · rw [if_pos hh] at hlt ⊢
    by_cases hp : pushE 3 s.q p.d = 0
    · rw [if_pos hp] at hlt ⊢
      have h2 := hh
      unfold entHit at h2
      simp only [Bool.and_eq_true, beq_iff_eq] at h2
      obtain ⟨⟨ho, ht⟩, hc⟩ := h2
      obtain ⟨o1, o2, o3⟩ := h.opn ho
      rw [hc, ht] at o1
      rw [hc] at o2 o3
      refine ⟨hh, o1, o2, rfl, ⟨by simp [h.len], ?_, (fun e => by cases e), ?_, ?_, (fun e => by cases e)⟩⟩
      · show s.ret + (pushL 3 s.q p.d).length = s.ent + 1
        rw [pushL_len hp]; have := h.ret; omega
      · intro c hm
        rcases List.mem_cons.1 hm with rfl | hm
        · exact o3
        · exact h.used c hm
      · intro _
        refine ⟨by show 0 < s.ent + 1; omega, ?_⟩
        show (ins ++ [p.T])[s.ent + 1 - 1]? = some p.T
        rw [Nat.add_sub_cancel, ← h.len, List.getElem?_append_right (Nat.le_refl _)]
        simp
    · rw [if_neg hp] at hlt; exact absurd hlt (Nat.lt_irrefl _)
  · rw [if_neg hh] at hlt; exact absurd hlt (Nat.lt_irrefl _)
theorem Pl.ent_stay (h : Pl s f S ins) (p : Pk) (hle : ¬ s.ent < (entS 3 s p).ent) : Pl (entS 3 s p) f S ins := by
  unfold entS at hle ⊢
  by_cases hh : entHit s p = true
  · rw [if_pos hh] at hle ⊢
    by_cases hp : pushE 3 s.q p.d = 0
    · rw [if_pos hp] at hle; exact absurd (show s.ent < s.ent + 1 by omega) hle
    · rw [if_neg hp]; exact h
  · rw [if_neg hh]; exact h
theorem entS_not {p : Pk} (h : ¬ entHit s p = true) : entS 3 s p = s := by unfold entS; rw [if_neg h]
theorem chalS_ent (L : List Nat) (s : Gst) (T : Nat) : (chalS L s T).ent = s.ent ∧ (chalS L s T).ret = s.ret := by unfold chalS; split <;> exact ⟨rfl, rfl⟩
theorem Pl.chal (h : Pl s f S ins) (L : List Nat) (T : Nat) (hn : (chalS L s T).U.Nodup) : Pl (chalS L s T) (tells f (chalT L s T)) S ins := by
  have e : tells f (chalT L s T) = updF f (chalS L s T).c (some T) := rfl
  rw [e]
  unfold chalS at hn ⊢
  by_cases hh : chalHit s T = true
  · rw [if_pos hh]
    have ho : s.opn = true := by unfold chalHit at hh; simp at hh; exact hh.1
    have ht : s.t = T := by unfold chalHit at hh; simp at hh; exact hh.2
    obtain ⟨o1, o2, o3⟩ := h.opn ho
    exact ⟨h.len, h.ret, (fun _ => ⟨by unfold updF; rw [if_pos rfl, ht], o2, o3⟩), h.used, h.last, h.no⟩
  · rw [if_neg hh] at hn ⊢
    have hnew : nextN L s.U.length ∉ s.U := fun hm => by
      have hn2 : (s.U ++ [nextN L s.U.length]).Nodup := hn
      rw [List.nodup_append] at hn2
      exact hn2.2.2 _ hm _ (by simp) rfl
    refine ⟨h.len, h.ret, (fun _ => ⟨by unfold updF; rw [if_pos rfl], fun hm => hnew (h.used _ hm), by simp⟩), ?_, h.last, h.no⟩
    intro c hm
    exact List.mem_append_left _ (h.used c hm)
/-- the whole law, act by act. -/
theorem Pl.act_enter (h : Pl s f S ins) (L : List Nat) (d : Int) (p : Pk) (hlt : s.ent < (actS L d p s).ent) : d = 0 ∧ p.k = 2 ∧ actT L d p s = [] ∧ f p.C = some p.T ∧ p.C ∉ S ∧ (actS L d p s).ent = s.ent + 1 ∧ Pl (actS L d p s) f (p.C :: S) (ins ++ [p.T]) := by
  unfold actS at hlt ⊢
  unfold actT
  by_cases d0 : d = 0
  · rw [if_pos d0] at hlt ⊢
    rw [if_pos d0]
    unfold takeS at hlt ⊢
    unfold takeT
    by_cases hk : p.k = 2
    · rw [if_pos hk] at hlt ⊢
      rw [if_pos hk]
      obtain ⟨h1, h2, h3, h4, h5⟩ := h.ent_enter p hlt
      exact ⟨d0, hk, by rw [if_pos h1], h2, h3, h4, h5⟩
    · rw [if_neg hk] at hlt
      by_cases hk0 : p.k = 0
      · rw [if_pos hk0] at hlt
        split at hlt
        · exact absurd hlt (Nat.lt_irrefl _)
        · rw [(chalS_ent L s p.T).1] at hlt; exact absurd hlt (Nat.lt_irrefl _)
      · rw [if_neg hk0] at hlt; exact absurd hlt (Nat.lt_irrefl _)
  · rw [if_neg d0] at hlt
    by_cases d1 : d = 1
    · rw [if_pos d1, recS_ent] at hlt; exact absurd hlt (Nat.lt_irrefl _)
    · rw [if_neg d1] at hlt; exact absurd hlt (Nat.lt_irrefl _)
theorem tells_rec (f : Nat → Option Nat) (s : Gst) : tells f (recT s) = f := by
  unfold recT
  split
  · rfl
  · exact tells_known f _
theorem Pl.act_stay (h : Pl s f S ins) (L : List Nat) (d : Int) (p : Pk) (hle : ¬ s.ent < (actS L d p s).ent) (hn : (actS L d p s).U.Nodup) : Pl (actS L d p s) (tells f (actT L d p s)) S ins := by
  unfold actS at hle hn ⊢
  unfold actT
  by_cases d0 : d = 0
  · rw [if_pos d0] at hle hn ⊢
    rw [if_pos d0]
    unfold takeS at hle hn ⊢
    unfold takeT
    by_cases hk : p.k = 2
    · rw [if_pos hk] at hle hn ⊢
      rw [if_pos hk]
      have h1 := h.ent_stay p hle
      split
      · exact h1
      · split
        · rw [tells_known]; exact h1
        · exact h1
    · rw [if_neg hk] at hle hn ⊢
      rw [if_neg hk]
      by_cases hk0 : p.k = 0
      · rw [if_pos hk0] at hle hn ⊢
        rw [if_pos hk0]
        by_cases ho : oldG s p = true
        · rw [if_pos ho, if_pos ho, tells_known]; exact h
        · rw [if_neg ho] at hle hn
          rw [if_neg ho, if_neg ho]
          exact h.chal L p.T hn
      · rw [if_neg hk0, if_neg hk0]; exact h
  · rw [if_neg d0] at hle hn ⊢
    rw [if_neg d0]
    by_cases d1 : d = 1
    · rw [if_pos d1, if_pos d1, tells_rec]; exact h.recv
    · rw [if_neg d1, if_neg d1]; exact h
/-- what is told as known was returned; all else that is told is a challenge. -/
theorem Pl.act_ack (h : Pl s f S ins) (L : List Nat) (d : Int) (p : Pk) : ∀ t ∈ actT L d p s, t.1 = 1 ∨ (t.1 = 3 ∧ t.2.1 ∈ ins.take (actS L d p s).ret) := by
  intro t ht
  unfold actS
  unfold actT at ht
  by_cases d0 : d = 0
  · rw [if_pos d0] at ht ⊢
    unfold takeS
    unfold takeT at ht
    by_cases hk : p.k = 2
    · rw [if_pos hk] at ht ⊢
      by_cases hh : entHit s p = true
      · rw [if_pos hh] at ht; cases ht
      · rw [if_neg hh] at ht
        rw [entS_not hh]
        by_cases ho : oldG s p = true
        · rw [if_pos ho] at ht
          exact .inr (h.known (by unfold oldG at ho; simp at ho; exact ho.1) t ht)
        · rw [if_neg ho] at ht; cases ht
    · rw [if_neg hk] at ht ⊢
      by_cases hk0 : p.k = 0
      · rw [if_pos hk0] at ht ⊢
        by_cases ho : oldG s p = true
        · rw [if_pos ho] at ht ⊢
          exact .inr (h.known (by unfold oldG at ho; simp at ho; exact ho.1) t ht)
        · rw [if_neg ho] at ht
          unfold chalT at ht
          simp at ht
          subst ht
          exact .inl rfl
      · rw [if_neg hk0] at ht; cases ht
  · rw [if_neg d0] at ht ⊢
    by_cases d1 : d = 1
    · rw [if_pos d1] at ht ⊢
      exact .inr (h.rec_ack t ht)
    · rw [if_neg d1] at ht; cases ht
end
theorem actT_len (L : List Nat) (d : Int) (p : Pk) (s : Gst) : (actT L d p s).length ≤ 1 := by
  unfold actT
  split
  · exact takeT_len L s p
  · split
    · exact recT_len s
    · simp
theorem actS_few (L : List Nat) (d : Int) (p : Pk) (s : Gst) : (actS L d p s).ent ≤ s.ent + 1 ∧ (actS L d p s).ret ≤ s.ret + 1 ∧ (actS L d p s).U.length ≤ s.U.length + 1 := by
  unfold actS
  split
  · exact takeS_few 3 L s p
  · split
    · exact recS_few s
    · exact ⟨Nat.le_succ _, Nat.le_succ _, Nat.le_succ _⟩
end Go.Proofs.Ytfcappddncnglaa
