/- Whose each connection is: the plain law. -/
import Derived.Test.YtmpcffkandmacaaPlain3
namespace Go.Proofs.Ytmpcffkandmacaa
open Go.RowKit
set_option linter.unusedVariables false
set_option linter.unusedSimpArgs false

/-- One act told to the list of owners. -/
def ownS (o : List Int) (x : Ac) : Option (List Int) :=
  if x.kind = 1 then (if x.conn = o.length then some (o ++ [x.who]) else none)
  else if x.kind = 2 then (if 0 ≤ x.conn ∧ x.conn < o.length ∧ o.getD x.conn.toNat 0 = -1 then some (o.set x.conn.toNat x.who) else none)
  else if x.kind = 5 then (if 0 ≤ x.conn ∧ x.conn < o.length then some (o.set x.conn.toNat (-1)) else none)
  else some o
def ownL : List Int → List Ac → Option (List Int)
  | o, [] => some o
  | o, x :: l => match ownS o x with
    | none => none
    | some o' => ownL o' l
theorem ownL_append : ∀ {a b : List Ac} {o o' : List Int}, ownL o a = some o' → ownL o (a ++ b) = ownL o' b
  | [], b, o, o', h => by injection h with h; rw [h]; rfl
  | x :: a, b, o, o', h => by
    unfold ownL at h
    rw [List.cons_append]
    cases hs : ownS o x with
    | none => rw [hs] at h; cases h
    | some o2 =>
      rw [hs] at h
      have e : ownL o (x :: (a ++ b)) = ownL o2 (a ++ b) := by rw [ownL, hs]
      rw [e]
      exact ownL_append h
structure Good (P : Pp) (o : List Int) : Prop where
  len : o.length = P.next
  lt : ∀ c ∈ P.l, c.num < P.next
  rest : ∀ c ∈ P.l, c.st = 2 → o.getD c.num 0 = -1
  inc : (P.l.map (·.num)).Pairwise (· < ·)
theorem getD_set {o : List Int} {n m : Nat} {x : Int} (hn : n < o.length) : (o.set n x).getD m 0 = if n = m then x else o.getD m 0 := by
  rw [List.getD_eq_getElem?_getD, List.getElem?_set]
  by_cases h : n = m
  · subst h
    rw [if_pos rfl, if_pos hn, if_pos rfl]
    rfl
  · rw [if_neg h, if_neg h, List.getD_eq_getElem?_getD]
theorem Good.setN {P : Pp} {o : List Int} (h : Good P o) {n : Nat} (hn : n < o.length) : Good P (o.set n (-1)) :=
  ⟨by rw [List.length_set]; exact h.len, h.lt, fun c hc hs => by
    rw [getD_set hn]
    split
    · rfl
    · exact h.rest c hc hs, h.inc⟩
theorem Good.sub {P Q : Pp} {o : List Int} (h : Good P o) (hl : List.Sublist Q.l P.l) (hn : Q.next = P.next) : Good Q o :=
  ⟨by rw [hn]; exact h.len, fun c hc => by rw [hn]; exact h.lt c (hl.subset hc), fun c hc => h.rest c (hl.subset hc), h.inc.sublist (hl.map _)⟩
theorem Good.cut {P : Pp} {o : List Int} (h : Good P o) (i : Nat) : Good (cutI P i) o := h.sub (List.eraseIdx_sublist _ _) rfl
theorem Good.num_ne {P : Pp} {o : List Int} (h : Good P o) {i j : Nat} (hi : i < P.l.length) (hj : j < P.l.length) (hne : i ≠ j) : (P.l[i]).num ≠ (P.l[j]).num := by
  have key := List.pairwise_iff_getElem.1 h.inc
  rcases Nat.lt_or_gt_of_ne hne with hlt | hlt
  · have := key i j (by simpa using hi) (by simpa using hj) hlt
    simp only [List.getElem_map] at this
    omega
  · have := key j i (by simpa using hj) (by simpa using hi) hlt
    simp only [List.getElem_map] at this
    omega
theorem map_num_set {l : List Cn} {i : Nat} {c : Cn} (hi : i < l.length) (hc : c.num = l[i].num) : (l.set i c).map (·.num) = l.map (·.num) := by
  refine List.ext_getElem? fun k => ?_
  rw [List.getElem?_map, List.getElem?_set, List.getElem?_map]
  split
  · rename_i h
    subst h
    first | rw [if_pos hi, List.getElem?_eq_getElem hi] | rw [List.getElem?_eq_getElem hi]
    simp [hc]
  · rfl
theorem mem_set_ne {l : List Cn} {i : Nat} {c x : Cn} (hx : x ∈ l.set i c) : x = c ∨ ∃ j, ∃ h : j < l.length, j ≠ i ∧ x = l[j] := by
  obtain ⟨j, hj, rfl⟩ := List.getElem_of_mem hx
  rw [List.length_set] at hj
  by_cases h : i = j
  · subst h; left; simp
  · right; exact ⟨j, hj, fun e => h e.symm, by rw [List.getElem_set_ne h]⟩
/-- A connection's state is turned, not to rest. -/
theorem Good.setBusy {P : Pp} {o : List Int} (h : Good P o) {i : Nat} (hi : i < P.l.length) {c : Cn} (hc : c.num = (cnAt P.l i).num) (hs : c.st ≠ 2) (x : Int) : Good { P with l := P.l.set i c } (o.set c.num x) ∧ Good { P with l := P.l.set i c } o := by
  rw [cnAt_eq hi] at hc
  have hlt : ∀ c' ∈ P.l.set i c, c'.num < P.next := fun c' hc' => by
    rcases mem_set_ne hc' with rfl | ⟨j, hj, _, rfl⟩
    · rw [hc]; exact h.lt _ (List.getElem_mem hi)
    · exact h.lt _ (List.getElem_mem hj)
  have hinc : ((P.l.set i c).map (·.num)).Pairwise (· < ·) := by rw [map_num_set hi hc]; exact h.inc
  have hn : c.num < o.length := by rw [h.len, hc]; exact h.lt _ (List.getElem_mem hi)
  constructor
  · refine ⟨by rw [List.length_set]; exact h.len, hlt, fun c' hc' hs' => ?_, hinc⟩
    rcases mem_set_ne hc' with rfl | ⟨j, hj, hji, rfl⟩
    · exact absurd hs' hs
    · rw [getD_set hn, if_neg (by rw [hc]; exact h.num_ne hi hj (fun e => hji e.symm))]
      exact h.rest _ (List.getElem_mem hj) hs'
  · refine ⟨h.len, hlt, fun c' hc' hs' => ?_, hinc⟩
    rcases mem_set_ne hc' with rfl | ⟨j, hj, hji, rfl⟩
    · exact absurd hs' hs
    · exact h.rest _ (List.getElem_mem hj) hs'
theorem bestU_good {P : Pp} {now : Nat} : ∀ {j i : Nat}, bestU P now j = some i → good P now (cnAt P.l i) = true
  | 0, i, h => by cases h
  | j + 1, i, h => by
    unfold bestU at h
    split at h
    · rename_i hc
      injection h with h
      subst h
      exact (Bool.and_eq_true_iff.1 hc).1
    · exact bestU_good h
theorem give_good {P P1 : Pp} {o : List Int} {now : Nat} {u : Int} {a : Ac} (h : Good P o) (hg : give P now u = (P1, some a)) : ∃ o', ownS o a = some o' ∧ Good P1 o' := by
  unfold give at hg
  split at hg
  · rename_i i hi
    simp only [Prod.mk.injEq, Option.some.injEq] at hg
    obtain ⟨rfl, rfl⟩ := hg
    have hil := bestU_lt hi
    have hst : (cnAt P.l i).st = 2 := of_decide_eq_true (Bool.and_eq_true_iff.1 (bestU_good hi)).1
    have hmem := cnAt_mem hil
    have hr := h.rest _ hmem hst
    have hl := h.lt _ hmem
    have hln := h.len
    refine ⟨o.set (cnAt P.l i).num u, ?_, (h.setBusy hil (c := { cnAt P.l i with st := 1, who := u }) rfl (by decide : (1 : Nat) ≠ 2) u).1⟩
    unfold ownS
    rw [if_neg (by decide : ¬ (2 : Int) = 1), if_pos rfl]
    simp only [Int.toNat_natCast]
    rw [if_pos ⟨by omega, by omega, hr⟩]
  · split at hg
    · simp at hg
    · simp only [Prod.mk.injEq, Option.some.injEq] at hg
      obtain ⟨rfl, rfl⟩ := hg
      have hln := h.len
      refine ⟨o ++ [u], ?_, ?_⟩
      · unfold ownS
        rw [if_pos rfl]
        simp only
        rw [if_pos (by omega)]
      · refine ⟨by rw [List.length_append, List.length_singleton]; show _ = P.next + 1; omega, fun c hc => ?_, fun c hc hs => ?_, ?_⟩
        · show c.num < P.next + 1
          rcases List.mem_append.1 hc with hc | hc
          · have := h.lt c hc; omega
          · rw [List.mem_singleton.1 hc]; exact Nat.lt_succ_self _
        · rcases List.mem_append.1 hc with hc | hc
          · have h1 := h.lt c hc
            have h2 := h.rest c hc hs
            rw [List.getD_eq_getElem?_getD] at h2 ⊢
            rw [List.getElem?_append_left (by omega)]
            exact h2
          · rw [List.mem_singleton.1 hc] at hs
            exact absurd hs (by decide : (0 : Nat) ≠ 2)
        · show ((P.l ++ [(⟨P.next, 0, u, 0, now, 0⟩ : Cn)]).map (·.num)).Pairwise (· < ·)
          rw [List.map_append, List.pairwise_append]
          refine ⟨h.inc, List.pairwise_singleton _ _, fun x hx y hy => ?_⟩
          obtain ⟨c, hc, rfl⟩ := List.mem_map.1 hx
          simp only [List.map_cons, List.map_nil, List.mem_singleton] at hy
          subst hy
          exact h.lt c hc
theorem Good.waits {P : Pp} {o : List Int} (h : Good P o) (x : List Int) : Good { P with waits := x } o := ⟨h.len, h.lt, h.rest, h.inc⟩
theorem serve_good {now : Nat} : ∀ (m : Nat) {P : Pp} {o : List Int}, P.waits.length = m → Good P o → ∃ o', ownL o (serve P now).2 = some o' ∧ Good (serve P now).1 o' := by
  intro m
  induction m with
  | zero =>
    intro P o hm h
    rw [serve_nil (List.eq_nil_of_length_eq_zero hm)]
    exact ⟨o, rfl, h⟩
  | succ m ih =>
    intro P o hm h
    cases hw : P.waits with
    | nil => rw [hw] at hm; cases hm
    | cons u us =>
      cases hg : give P now u with
      | mk P1 og =>
        cases og with
        | none =>
          rw [serve_stop hw hg]
          exact ⟨o, rfl, h⟩
        | some a =>
          rw [serve_step hw hg]
          obtain ⟨o1, h1, h2⟩ := give_good h hg
          obtain ⟨o2, h3, h4⟩ := ih (P := { P1 with waits := us }) (by rw [hw] at hm; simpa using hm) (h2.waits us)
          refine ⟨o2, ?_, h4⟩
          show ownL o (a :: _) = _
          unfold ownL
          rw [h1]
          exact h3
theorem serve_good' {now : Nat} {P : Pp} {o : List Int} (h : Good P o) : ∃ o', ownL o (serve P now).2 = some o' ∧ Good (serve P now).1 o' := serve_good _ rfl h
theorem ownS_close {o : List Int} {n : Nat} {w : Int} (hn : n < o.length) : ownS o ⟨5, n, w⟩ = some (o.set n (-1)) := by
  unfold ownS
  rw [if_neg (by decide : ¬ (5 : Int) = 1), if_neg (by decide : ¬ (5 : Int) = 2), if_pos rfl]
  simp only [Int.toNat_natCast]
  rw [if_pos ⟨by omega, by omega⟩]
theorem atI_num {P : Pp} {n : Int} {i : Nat} (h : atI P n = some i) : ((cnAt P.l i).num : Int) = n := by
  unfold atI at h
  obtain ⟨hi, he, _⟩ := List.findIdx?_eq_some_iff_getElem.1 h
  rw [cnAt_eq hi]
  exact of_decide_eq_true he
theorem closes_good {P : Pp} {now : Nat} {o : List Int} (h : Good P o) : ∃ o', ownL o (closes P now) = some o' ∧ Good P o' := by
  unfold closes
  have key : ∀ (l : List Cn) (o : List Int), (∀ c ∈ l, c ∈ P.l) → Good P o → ∃ o', ownL o (l.map fun c => ⟨5, c.num, -1⟩) = some o' ∧ Good P o' := by
    intro l
    induction l with
    | nil => exact fun o _ h => ⟨o, rfl, h⟩
    | cons c l ih =>
      intro o hm h
      have hn : c.num < o.length := by rw [h.len]; exact h.lt c (hm c (List.mem_cons_self ..))
      obtain ⟨o', h1, h2⟩ := ih (o.set c.num (-1)) (fun x hx => hm x (List.mem_cons_of_mem _ hx)) (h.setN hn)
      refine ⟨o', ?_, h2⟩
      rw [List.map_cons]
      unfold ownL
      rw [ownS_close hn]
      exact h1
  exact key _ o (fun c hc => (List.mem_filter.1 hc).1) h
/-- What the step that was let go says. -/
def goneO (o : List Int) (b : Bool) (who : Int) : List Int := if b then o.set who.toNat (-1) else o
theorem rest_good {P : Pp} {o : List Int} (h : Good P o) {i now : Nat} (hi : i < P.l.length) : Good (restI P i now) (o.set (cnAt P.l i).num (-1)) := by
  rw [cnAt_eq hi]
  have hn : (P.l[i]).num < o.length := by rw [h.len]; exact h.lt _ (List.getElem_mem hi)
  refine ⟨by rw [List.length_set]; exact h.len, fun c' hc' => ?_, fun c' hc' hs' => ?_, ?_⟩
  · show c'.num < P.next
    rcases mem_set_ne hc' with e | ⟨j, hj, _, rfl⟩
    · have : c'.num = P.l[i].num := by rw [e, cnAt_eq hi]
      rw [this]; exact h.lt _ (List.getElem_mem hi)
    · exact h.lt _ (List.getElem_mem hj)
  · rcases mem_set_ne hc' with e | ⟨j, hj, hji, rfl⟩
    · have : c'.num = P.l[i].num := by rw [e, cnAt_eq hi]
      rw [this, getD_set hn, if_pos rfl]
    · rw [getD_set hn]
      split
      · rfl
      · exact h.rest _ (List.getElem_mem hj) hs'
  · show ((P.l.set i _).map (·.num)).Pairwise (· < ·)
    rw [map_num_set hi (by rw [cnAt_eq hi])]
    exact h.inc
theorem does_good {P : Pp} {o : List Int} (h : Good P o) (kind who now : Int) :
    ((doesL P kind who now).2.2 = true → 0 ≤ who ∧ who < o.length) ∧ ∃ o', ownL (goneO o (doesL P kind who now).2.2 who) (doesL P kind who now).2.1 = some o' ∧ Good (doesL P kind who now).1 o' := by
  have no : ∀ {Q : Pp}, Good Q o → (false = true → 0 ≤ who ∧ who < o.length) ∧ ∃ o', ownL (goneO o false who) [] = some o' ∧ Good Q o' := fun {Q} h => ⟨fun e => (by cases e), ⟨o, rfl, h⟩⟩
  have hln := h.len
  unfold doesL
  split
  · -- ask
    unfold ask
    split
    · exact no h
    split
    · exact no h
    split
    · rename_i P2 a hg
      obtain ⟨o', h1, h2⟩ := give_good h hg
      refine ⟨fun e => (by cases e), o', ?_, h2⟩
      simp only [goneO, if_pos rfl]
      show ownL o [a] = _
      unfold ownL
      rw [h1]
      rfl
    · rename_i P2 hg
      have e := (give_none hg).1
      subst e
      split
      · exact ⟨fun e => (by cases e), o, rfl, h⟩
      · exact ⟨fun e => (by cases e), o, rfl, h.waits _⟩
  split
  · -- up
    unfold up
    split
    · exact no h
    · rename_i i hi
      split
      · exact no (h.setBusy (atI_lt hi) (c := { cnAt P.l i with st := 1 }) rfl (by decide : (1 : Nat) ≠ 2) 0).2
      · exact no h
  split
  · -- gone
    unfold gone
    split
    · exact no h
    split
    · exact no h
    · rename_i i hi
      have hnum := atI_num hi
      have hl := h.lt _ (cnAt_mem (atI_lt hi))
      have hw : 0 ≤ who ∧ who < o.length := by omega
      refine ⟨fun _ => hw, ?_⟩
      have hg := (h.setN (n := who.toNat) (by omega)).cut i
      exact serve_good' hg
  have hdone : ∀ keep : Bool, (((done P now who keep).2.2 == 0) = true → 0 ≤ who ∧ who < o.length) ∧ ∃ o', ownL (goneO o ((done P now who keep).2.2 == 0) who) (done P now who keep).2.1 = some o' ∧ Good (done P now who keep).1 o' := by
    intro keep
    unfold done
    split
    · exact no h
    split
    · exact no h
    · rename_i i hi
      have hnum := atI_num hi
      have hl := h.lt _ (cnAt_mem (atI_lt hi))
      have hw : 0 ≤ who ∧ who < o.length := by omega
      split
      · exact no h
      split
      · refine ⟨fun _ => hw, ?_⟩
        have hn : who.toNat < o.length := by omega
        have hg := ((h.setN hn).setN (n := who.toNat) (by rw [List.length_set]; exact hn)).cut i
        obtain ⟨o', h1, h2⟩ := serve_good' (now := now.toNat) hg
        refine ⟨o', ?_, h2⟩
        show ownL (o.set who.toNat (-1)) (_ :: _) = _
        unfold ownL
        have e : who = (who.toNat : Int) := by omega
        have hc := ownS_close (o := o.set who.toNat (-1)) (n := who.toNat) (w := -1) (by rw [List.length_set]; exact hn)
        rw [← e] at hc
        rw [hc]
        exact h1
      · refine ⟨fun _ => hw, ?_⟩
        have hg := rest_good h (now := now.toNat) (atI_lt hi)
        have e : (cnAt P.l i).num = who.toNat := by omega
        rw [e] at hg
        exact serve_good' hg
  split
  · exact hdone true
  split
  · exact hdone false
  split
  · -- drop
    unfold drop
    split
    · exact no h
    split
    · rename_i i hi
      obtain ⟨o', h1, h2⟩ := serve_good' (now := now.toNat) (h.waits (P.waits.eraseIdx i))
      exact ⟨fun e => (by cases e), o', h1, h2⟩
    split
    · exact no h
    · rename_i i hi
      have hl := h.lt _ (cnAt_mem (ofI_lt hi))
      obtain ⟨o', h1, h2⟩ := serve_good' (now := now.toNat) ((h.setN (n := (cnAt P.l i).num) (by omega)).cut i)
      refine ⟨fun e => (by cases e), o', ?_, h2⟩
      show ownL o (_ :: _) = _
      unfold ownL
      rw [ownS_close (by omega)]
      exact h1
  · -- expire
    unfold expire
    split
    · exact no h
    · obtain ⟨o1, h1, h2⟩ := closes_good (now := now.toNat) h
      obtain ⟨o2, h3, h4⟩ := serve_good' (now := now.toNat) (h2.sub (Q := expireL P now.toNat) List.filter_sublist rfl)
      refine ⟨fun e => (by cases e), o2, ?_, h4⟩
      show ownL o (_ ++ _) = _
      rw [ownL_append h1]
      exact h3
end Go.Proofs.Ytmpcffkandmacaa
