/- serve, step by step; what stays. -/
import Derived.Test.YtmpcffkandmacaaWalks4
namespace Go.Proofs.Ytmpcffkandmacaa
open Go.RowKit
set_option linter.unusedVariables false

theorem bestU_waits (P : Pp) (x : List Int) (now : Nat) : ∀ j, bestU { P with waits := x } now j = bestU P now j
  | 0 => rfl
  | j + 1 => by
    unfold bestU
    rw [bestU_waits P x now j]
    rfl
theorem give_waits (P : Pp) (x : List Int) (now : Nat) (who : Int) : give { P with waits := x } now who = ({ (give P now who).1 with waits := x }, (give P now who).2) := by
  unfold give
  rw [bestU_waits]
  cases h : bestU P now P.l.length with
  | some i => rfl
  | none =>
    simp only
    split <;> rfl
theorem serveW_waits (now : Nat) : ∀ (us : List Int) (P : Pp) (x : List Int), serveW now us { P with waits := x } = serveW now us P
  | [], P, x => rfl
  | u :: us, P, x => by
    simp only [serveW, give_waits]
    cases hg : (give P now u) with
    | mk P' o =>
      cases o with
      | none => rfl
      | some a =>
        simp only
        rw [serveW_waits now us P' x]
theorem give_keeps {P : Pp} {now : Nat} {who : Int} : (give P now who).1.waits = P.waits ∧ (give P now who).1.cap = P.cap ∧ (give P now who).1.pend = P.pend ∧ (give P now who).1.idle = P.idle ∧ (give P now who).1.life = P.life ∧ (give P now who).1.rested = P.rested := by
  unfold give
  split
  · exact ⟨rfl, rfl, rfl, rfl, rfl, rfl⟩
  · split <;> exact ⟨rfl, rfl, rfl, rfl, rfl, rfl⟩
theorem give_none {P P' : Pp} {now : Nat} {who : Int} (h : give P now who = (P', none)) : P' = P ∧ P.cap ≤ P.l.length ∧ bestU P now P.l.length = none := by
  unfold give at h
  split at h
  · simp at h
  · split at h
    · simp only [Prod.mk.injEq, and_true] at h
      exact ⟨h.symm, by assumption, by assumption⟩
    · simp at h
theorem serve_nil {P : Pp} {now : Nat} (h : P.waits = []) : serve P now = (P, []) := by
  unfold serve
  rw [h]
  cases P
  simp only at h
  subst h
  rfl
theorem serve_step {P P1 : Pp} {now : Nat} {u : Int} {us : List Int} {a : Ac} (h : P.waits = u :: us) (hg : give P now u = (P1, some a)) : serve P now = ((serve { P1 with waits := us } now).1, a :: (serve { P1 with waits := us } now).2) := by
  have e := serveW_waits now us P1 us
  unfold serve
  rw [h]
  simp only [serveW, hg]
  rw [e]
theorem serve_stop {P P1 : Pp} {now : Nat} {u : Int} {us : List Int} (h : P.waits = u :: us) (hg : give P now u = (P1, none)) : serve P now = (P, []) := by
  have h1 := (give_none hg).1
  subst h1
  unfold serve
  rw [h]
  simp only [serveW, hg]
  rw [← h]

/-- What a pool is after at most k steps. -/
structure Okp (P : Pp) (k : Nat) : Prop where
  n : OkN P
  t : OkT P
  c : P.l.length ≤ P.cap
  p : P.waits.length ≤ P.pend
  x : P.next + P.waits.length ≤ k
  r : P.rested ≤ k
theorem Okp.mono {P : Pp} {k m : Nat} (h : Okp P k) (hm : k ≤ m) : Okp P m := ⟨h.n, h.t, h.c, h.p, Nat.le_trans h.x hm, Nat.le_trans h.r hm⟩
theorem Okp.l64 {P : Pp} {k : Nat} (h : Okp P k) : P.l.length ≤ 64 := Nat.le_trans h.c h.n.c.2
theorem Okp.w64 {P : Pp} {k : Nat} (h : Okp P k) : P.waits.length ≤ 64 := Nat.le_trans h.p h.n.d
theorem okT_set {P : Pp} {l : List Cn} (ht : OkT P) {i : Nat} {c : Cn} (e : l = P.l.set i c) (hc : c.since ≤ 4611686018427387904 ∧ c.born ≤ 4611686018427387904 ∧ c.st ≤ 2) : ∀ c ∈ l, c.since ≤ 4611686018427387904 ∧ c.born ≤ 4611686018427387904 ∧ c.st ≤ 2 := by
  intro x hx
  rw [e] at hx
  rcases List.mem_or_eq_of_mem_set hx with h | rfl
  · exact ht x h
  · exact hc
theorem give_okn {P : Pp} {now : Nat} {who : Int} (h : OkN P) : OkN (give P now who).1 := by
  obtain ⟨e1, e2, e3, e4, e5, e6⟩ := give_keeps (P := P) (now := now) (who := who)
  exact ⟨by rw [e2]; exact h.c, by rw [e3]; exact h.d, by rw [e4]; exact h.i, by rw [e5]; exact h.f⟩
theorem give_l {P : Pp} {now : Nat} {who : Int} (ht : OkT P) (hn : now ≤ 4611686018427387904) (hc : P.l.length ≤ P.cap) : OkT (give P now who).1 ∧ (give P now who).1.l.length ≤ (give P now who).1.cap ∧ (give P now who).1.next ≤ P.next + 1 := by
  unfold give
  split
  · rename_i i hi
    refine ⟨okT_set ht rfl ?_, by simpa using hc, Nat.le_succ _⟩
    have := ht _ (cnAt_mem (bestU_lt hi))
    exact ⟨this.1, this.2.1, (by decide : 1 ≤ 2)⟩
  · split
    · exact ⟨ht, hc, Nat.le_succ _⟩
    · rename_i hlt
      refine ⟨?_, by simp only [List.length_append, List.length_singleton]; omega, Nat.le_refl _⟩
      intro x hx
      rcases List.mem_append.1 hx with h | h
      · exact ht x h
      · rw [List.mem_singleton.1 h]
        exact ⟨Nat.zero_le _, hn, Nat.zero_le _⟩
theorem okp_step {P P1 : Pp} {now k : Nat} {u : Int} {us : List Int} {a : Ac} (h : Okp P k) (hn : now ≤ 4611686018427387904) (hw : P.waits = u :: us) (hg : give P now u = (P1, some a)) : Okp { P1 with waits := us } k := by
  have e : P1 = (give P now u).1 := by rw [hg]
  obtain ⟨e1, e2, e3, e4, e5, e6⟩ := give_keeps (P := P) (now := now) (who := u)
  obtain ⟨g1, g2, g3⟩ := give_l (who := u) h.t hn h.c
  have gn := give_okn (now := now) (who := u) h.n
  rw [← e] at e1 e2 e3 e4 e5 e6 g1 g2 g3 gn
  have hx := h.x
  have hp := h.p
  have hr := h.r
  rw [hw, List.length_cons] at hx hp
  exact ⟨⟨gn.c, gn.d, gn.i, gn.f⟩, g1, g2, by show us.length ≤ P1.pend; rw [e3]; omega, by show P1.next + us.length ≤ k; omega, by show P1.rested ≤ k; rw [e6]; exact hr⟩
/-- serve keeps all that. -/
theorem serve_ok {now k : Nat} (hn : now ≤ 4611686018427387904) : ∀ (m : Nat) {P : Pp}, P.waits.length = m → Okp P k → Okp (serve P now).1 k ∧ ((serve P now).1.waits = [] ∨ (serve P now).1.cap ≤ (serve P now).1.l.length)
    ∧ (serve P now).1.cap = P.cap ∧ (serve P now).1.pend = P.pend ∧ (serve P now).1.waits.length + (serve P now).2.length = P.waits.length := by
  intro m
  induction m with
  | zero =>
    intro P hm h
    have hw := List.eq_nil_of_length_eq_zero hm
    rw [serve_nil hw]
    exact ⟨h, .inl hw, rfl, rfl, rfl⟩
  | succ m ih =>
    intro P hm h
    cases hw : P.waits with
    | nil => rw [hw] at hm; cases hm
    | cons u us =>
      cases hg : give P now u with
      | mk P1 o =>
        cases o with
        | none =>
          rw [serve_stop hw hg]
          exact ⟨h, .inr (give_none hg).2.1, rfl, rfl, by rw [hw]; rfl⟩
        | some a =>
          rw [serve_step hw hg]
          obtain ⟨g1, g2, g3, g4, g5⟩ := ih (P := { P1 with waits := us }) (by rw [hw] at hm; simpa using hm) (okp_step h hn hw hg)
          obtain ⟨e1, e2, e3, e4, e5, e6⟩ := give_keeps (P := P) (now := now) (who := u)
          rw [hg] at e1 e2 e3 e4 e5 e6
          exact ⟨g1, g2, g3.trans e2, g4.trans e3, by simp only [List.length_cons] at g5 ⊢; omega⟩
theorem serve_len {now k : Nat} (hn : now ≤ 4611686018427387904) {P : Pp} (h : Okp P k) : (serve P now).2.length ≤ P.waits.length := by
  have := (serve_ok (k := k) hn _ rfl h).2.2.2.2
  omega
end Go.Proofs.Ytmpcffkandmacaa
