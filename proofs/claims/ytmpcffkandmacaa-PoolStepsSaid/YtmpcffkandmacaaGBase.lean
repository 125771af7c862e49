/- The reference's pool as the walks see it. -/
import Derived.Test.YtmpcffkandmacaaNext
namespace Go.Proofs.Ytmpcffkandmacaa
open Go.RowKit
set_option linter.unusedVariables false
set_option linter.unusedSimpArgs false

def gcC (c : Cn) : List Value := [.int .i64 c.num, .int .i64 ((c.st : Int) + 1), .int .i64 c.who, .int .i64 c.since, .int .i64 c.born]
def gCells (l : List Cn) : List Value := l.flatMap gcC
theorem gcC_len (c : Cn) : (gcC c).length = 5 := rfl
theorem gCells_len (l : List Cn) : (gCells l).length = l.length * 5 := flat_len gcC_len l
theorem gCells_append (a b : List Cn) : gCells (a ++ b) = gCells a ++ gCells b := by simp [gCells]
theorem gc_one (l : List Cn) : ∀ u ∈ gCells l, u.oneCell' = true := by
  intro u hu
  obtain ⟨x, _, hx⟩ := List.mem_flatMap.1 hu
  simp only [gcC, List.mem_cons, List.not_mem_nil, or_false] at hx
  rcases hx with rfl | rfl | rfl | rfl | rfl <;> rfl
def gpC (P : Pp) (vl vr vw : Value) : List Value := [.int .i64 P.cap, .int .i64 P.pend, .int .i64 P.idle, .int .i64 P.life, .int .i64 P.next, vl, vr, vw]
def gfoot (p : Nat) (vl vr vw : Value) : Nat → Prop := fun k => k = p ∨ vl.ownBlock = some k ∨ vr.ownBlock = some k ∨ vw.ownBlock = some k
structure Gw (w : World) (lo p : Nat) (P : Pp) (R : List Nat) (vl vr vw : Value) : Prop where
  blk : Blk w p (gpC P vl vr vw) 60
  row : w.ownsRow lo 97 5 vl P.l.length (gCells P.l)
  rr : w.ownsRow lo 3 1 vr R.length (ints (nints R))
  wt : w.ownsRow lo 3 1 vw P.waits.length (ints P.waits)
  low : lo ≤ p
  sep : ∀ k, vr.ownBlock = some k → vw.ownBlock ≠ some k

section
variable {w : World} {lo p : Nat} {P : Pp} {R : List Nat} {vl vr vw : Value}
theorem Gw.nl (h : Gw w lo p P R vl vr vw) : vl.ownBlock ≠ some p := ownsRow_ne h.row h.blk (by decide)
theorem Gw.nr (h : Gw w lo p P R vl vr vw) : vr.ownBlock ≠ some p := ownsRow_ne h.rr h.blk (by decide)
theorem Gw.nw (h : Gw w lo p P R vl vr vw) : vw.ownBlock ≠ some p := ownsRow_ne h.wt h.blk (by decide)
theorem Gw.nlr (h : Gw w lo p P R vl vr vw) : ∀ k, vl.ownBlock = some k → vr.ownBlock ≠ some k := fun k hk => own_own_ne h.row h.rr (by decide) k hk
theorem Gw.nlw (h : Gw w lo p P R vl vr vw) : ∀ k, vl.ownBlock = some k → vw.ownBlock ≠ some k := fun k hk => own_own_ne h.row h.wt (by decide) k hk
theorem Gw.lt (h : Gw w lo p P R vl vr vw) : ∀ k, gfoot p vl vr vw k → lo ≤ k ∧ k < w.heap.size := fun k hk => by
  rcases hk with rfl | hk | hk | hk
  · exact ⟨h.low, h.blk.lt⟩
  · exact ownsRow_lt h.row k hk
  · exact ownsRow_lt h.rr k hk
  · exact ownsRow_lt h.wt k hk
theorem Gw.only {S : Nat → Prop} {w' : World} (h : Gw w lo p P R vl vr vw) (ho : Only S w w') (hd : ∀ k, gfoot p vl vr vw k → ¬ S k) : Gw w' lo p P R vl vr vw :=
  ⟨h.blk.only ho (hd p (.inl rfl)), owns_only h.row ho (fun k hk => hd k (.inr (.inl hk))), owns_only h.rr ho (fun k hk => hd k (.inr (.inr (.inl hk)))), owns_only h.wt ho (fun k hk => hd k (.inr (.inr (.inr hk)))), h.low, h.sep⟩
theorem Gw.only0 {w' : World} (h : Gw w lo p P R vl vr vw) (ho : Only (fun _ => False) w w') : Gw w' lo p P R vl vr vw := h.only ho (fun _ _ h => h)
/-- A number is turned. -/
theorem Gw.setF (h : Gw w lo p P R vl vr vw) {P' : Pp} {i : Nat} {u : Value} (e : gpC P' vl vr vw = (gpC P vl vr vw).set i u) (hl : P'.l = P.l) (hw : P'.waits = P.waits) : Gw (w.setCell ⟨p, i, none⟩ u) lo p P' R vl vr vw :=
  ⟨by rw [e]; exact h.blk.set i u, by rw [hl]; exact owns_only h.row (only_p w p i u) (fun k hk e => h.nl (by rw [hk, e])), owns_only h.rr (only_p w p i u) (fun k hk e => h.nr (by rw [hk, e])), by rw [hw]; exact owns_only h.wt (only_p w p i u) (fun k hk e => h.nw (by rw [hk, e])), h.low, h.sep⟩
/-- p.L = another row. -/
theorem Gw.setL (h : Gw w lo p P R vl vr vw) {w2 : World} {v : Value} {l : List Cn} (hon : Only (fun k => vl.ownBlock = some k) w w2) (hrow : w2.ownsRow lo 97 5 v l.length (gCells l)) (hat : ∀ k, v.ownBlock = some k → vl.ownBlock = some k ∨ w.heap.size ≤ k) :
    Gw (w2.setCell ⟨p, 5, none⟩ v) lo p { P with l := l } R v vr vw ∧ Mv (gfoot p vl vr vw) (gfoot p v vr vw) w (w2.setCell ⟨p, 5, none⟩ v) := by
  have hb := h.blk.only hon h.nl
  have hop := only_p w2 p 5 v
  have hv : v.ownBlock ≠ some p := ownsRow_ne hrow hb (by decide)
  refine ⟨⟨hb.set 5 v, owns_only hrow hop (fun k hk e => hv (by rw [hk, e])), owns_only (owns_only h.rr hon (fun k hk e => h.nlr k e hk)) hop (fun k hk e => h.nr (by rw [hk, e])), owns_only (owns_only h.wt hon (fun k hk e => h.nlw k e hk)) hop (fun k hk e => h.nw (by rw [hk, e])), h.low, h.sep⟩, ?_, fun k hk => ?_⟩
  · exact (hon.mono (fun k _ e => .inr (.inl e))).trans hop (fun k _ e => .inl e)
  · rcases hk with hk | hk | hk | hk
    · exact .inl (.inl hk)
    · exact (hat k hk).imp (fun e => .inr (.inl e)) id
    · exact .inl (.inr (.inr (.inl hk)))
    · exact .inl (.inr (.inr (.inr hk)))
/-- p.Rest = another row. -/
theorem Gw.setR (h : Gw w lo p P R vl vr vw) {w2 : World} {v : Value} {R' : List Nat} (hon : Only (fun k => vr.ownBlock = some k) w w2) (hrow : w2.ownsRow lo 3 1 v R'.length (ints (nints R'))) (hat : ∀ k, v.ownBlock = some k → vr.ownBlock = some k ∨ w.heap.size ≤ k) :
    Gw (w2.setCell ⟨p, 6, none⟩ v) lo p P R' vl v vw ∧ Mv (gfoot p vl vr vw) (gfoot p vl v vw) w (w2.setCell ⟨p, 6, none⟩ v) := by
  have hb := h.blk.only hon h.nr
  have hop := only_p w2 p 6 v
  have hv : v.ownBlock ≠ some p := ownsRow_ne hrow hb (by decide)
  refine ⟨⟨hb.set 6 v, owns_only (owns_only h.row hon (fun k hk e => h.nlr k hk e)) hop (fun k hk e => h.nl (by rw [hk, e])), owns_only hrow hop (fun k hk e => hv (by rw [hk, e])), owns_only (owns_only h.wt hon (fun k hk e => h.sep k e hk)) hop (fun k hk e => h.nw (by rw [hk, e])), h.low, fun k hk e => ?_⟩, ?_, fun k hk => ?_⟩
  · rcases hat k hk with e' | e'
    · exact h.sep k e' e
    · have := (ownsRow_lt h.wt k e).2; omega
  · exact (hon.mono (fun k _ e => .inr (.inr (.inl e)))).trans hop (fun k _ e => .inl e)
  · rcases hk with hk | hk | hk | hk
    · exact .inl (.inl hk)
    · exact .inl (.inr (.inl hk))
    · exact (hat k hk).imp (fun e => .inr (.inr (.inl e))) id
    · exact .inl (.inr (.inr (.inr hk)))
/-- p.Waits = another row. -/
theorem Gw.setW (h : Gw w lo p P R vl vr vw) {w2 : World} {v : Value} {l : List Int} (hon : Only (fun k => vw.ownBlock = some k) w w2) (hrow : w2.ownsRow lo 3 1 v l.length (ints l)) (hat : ∀ k, v.ownBlock = some k → vw.ownBlock = some k ∨ w.heap.size ≤ k) :
    Gw (w2.setCell ⟨p, 7, none⟩ v) lo p { P with waits := l } R vl vr v ∧ Mv (gfoot p vl vr vw) (gfoot p vl vr v) w (w2.setCell ⟨p, 7, none⟩ v) := by
  have hb := h.blk.only hon h.nw
  have hop := only_p w2 p 7 v
  have hv : v.ownBlock ≠ some p := ownsRow_ne hrow hb (by decide)
  refine ⟨⟨hb.set 7 v, owns_only (owns_only h.row hon (fun k hk e => h.nlw k hk e)) hop (fun k hk e => h.nl (by rw [hk, e])), owns_only (owns_only h.rr hon (fun k hk e => h.sep k hk e)) hop (fun k hk e => h.nr (by rw [hk, e])), owns_only hrow hop (fun k hk e => hv (by rw [hk, e])), h.low, fun k hk e => ?_⟩, ?_, fun k hk => ?_⟩
  · rcases hat k e with e' | e'
    · exact h.sep k hk e'
    · have := (ownsRow_lt h.rr k hk).2; omega
  · exact (hon.mono (fun k _ e => .inr (.inr (.inr e)))).trans hop (fun k _ e => .inl e)
  · rcases hk with hk | hk | hk | hk
    · exact .inl (.inl hk)
    · exact .inl (.inr (.inl hk))
    · exact .inl (.inr (.inr (.inl hk)))
    · exact (hat k hk).imp (fun e => .inr (.inr (.inr e))) id
theorem gCells_set {l : List Cn} {i j : Nat} {c : Cn} {u : Value} (hi : i < l.length) (hj : j < 5) (e : gcC c = (gcC l[i]).set j u) : (gCells l).set (i * 5 + j) u = gCells (l.set i c) := by
  refine List.ext_getElem? fun k => ?_
  rw [List.getElem?_set]
  by_cases hk : k < l.length * 5
  · have hd : k / 5 < l.length := by omega
    have hm : k % 5 < 5 := by omega
    have ek : k = k / 5 * 5 + k % 5 := by omega
    have g1 : (gCells l)[k]? = (gcC l[k / 5])[k % 5]? := by
      have := flat_get (f := gcC) gcC_len (l := l) hd hm
      rw [← ek] at this
      exact this
    have hd' : k / 5 < (l.set i c).length := by rw [List.length_set]; exact hd
    have g2 : (gCells (l.set i c))[k]? = (gcC ((l.set i c)[k / 5]'hd'))[k % 5]? := by
      have := flat_get (f := gcC) gcC_len (l := l.set i c) (i := k / 5) (by rw [List.length_set]; exact hd) hm
      rw [← ek] at this
      exact this
    rw [g1, g2]
    by_cases hki : k / 5 = i
    · have e1 : (l.set i c)[k / 5]'(by rw [List.length_set]; exact hd) = c := by simp [hki]
      have e2 : l[k / 5] = l[i] := by simp [hki]
      rw [e1, e2, e, List.getElem?_set]
      by_cases hkj : k % 5 = j
      · rw [if_pos (by omega), if_pos (by rw [gCells_len]; omega), if_pos hkj.symm, if_pos (by rw [gcC_len]; omega)]
      · rw [if_neg (by omega), if_neg (fun e => hkj e.symm)]
    · have e1 : (l.set i c)[k / 5]'(by rw [List.length_set]; exact hd) = l[k / 5] := by rw [List.getElem_set_ne (fun e => hki e.symm)]
      rw [e1, if_neg (by omega)]
  · rw [if_neg (by omega), List.getElem?_eq_none (by rw [gCells_len]; omega), List.getElem?_eq_none (by rw [gCells_len, List.length_set]; omega)]
/-- The connections' cells. -/
theorem Gw.at_ (h : Gw w lo p P R vl vr vw) {i : Nat} (hi : i < P.l.length) : ∃ g cap, vl = .slice (some ⟨g, 0, none⟩) P.l.length cap ∧ P.l.length ≤ cap ∧ cap ≤ 9223372036854775807 ∧ g < w.heap.size ∧
    w.cell? ⟨g, i * 5, none⟩ = some (.int .i64 (cnAt P.l i).num) ∧ w.cell? ⟨g, i * 5 + 1, none⟩ = some (.int .i64 (((cnAt P.l i).st : Int) + 1)) ∧ w.cell? ⟨g, i * 5 + 2, none⟩ = some (.int .i64 (cnAt P.l i).who) ∧ w.cell? ⟨g, i * 5 + 3, none⟩ = some (.int .i64 (cnAt P.l i).since) ∧ w.cell? ⟨g, i * 5 + 4, none⟩ = some (.int .i64 (cnAt P.l i).born)
    ∧ ∀ j, w.frozen? ⟨g, j, none⟩ = false := by
  obtain ⟨g, cap, C, e, a1, a2, a3, a4, _⟩ := ownsRow_blk h.row (by omega)
  have key : ∀ k, k < 5 → (gCells P.l ++ C)[i * 5 + k]? = (gcC (cnAt P.l i))[k]? := fun k hk => by
    rw [List.getElem?_append_left (by rw [gCells_len]; omega), cnAt_eq hi]
    exact flat_get gcC_len hi hk
  refine ⟨g, cap, e, a3, by unfold maxLen at a4; omega, a2.lt, ?_, ?_, ?_, ?_, ?_, a2.free⟩
  · have := key 0 (by decide)
    rw [Nat.add_zero] at this
    rw [a2.cellAt, this]; rfl
  · rw [a2.cellAt, key 1 (by decide)]; rfl
  · rw [a2.cellAt, key 2 (by decide)]; rfl
  · rw [a2.cellAt, key 3 (by decide)]; rfl
  · rw [a2.cellAt, key 4 (by decide)]; rfl
/-- A connection's cell is turned. -/
theorem Gw.setC (h : Gw w lo p P R vl vr vw) {g n cap i j : Nat} {c : Cn} {u : Value} (hv : vl = .slice (some ⟨g, 0, none⟩) n cap) (hi : i < P.l.length) (hj : j < 5) (e : gcC c = (gcC (cnAt P.l i)).set j u) :
    Gw (w.setCell ⟨g, i * 5 + j, none⟩ u) lo p { P with l := P.l.set i c } R vl vr vw ∧ Mv (gfoot p vl vr vw) (gfoot p vl vr vw) w (w.setCell ⟨g, i * 5 + j, none⟩ u) := by
  rw [cnAt_eq hi] at e
  have hrow := h.row
  obtain ⟨g', cap', C, e', a1, a2, a3, a4, a5⟩ := ownsRow_blk hrow (by omega)
  have hg : g' = g := by rw [hv] at e'; injection e' with e1; injection e1 with e1; injection e1 with e1; exact e1.symm
  subst hg
  have hop := only_p w g' (i * 5 + j) u
  have hown : vl.ownBlock = some g' := by rw [hv]; rfl
  have hb := a2.set (i * 5 + j) u
  rw [List.set_append_left (i * 5 + j) _ (by rw [gCells_len]; omega), gCells_set hi hj e] at hb
  refine ⟨⟨h.blk.only hop (fun e => h.nl (by rw [hown, e])), ?_, owns_only h.rr hop (fun k hk e => h.nlr g' hown (by rw [← e]; exact hk)), owns_only h.wt hop (fun k hk e => h.nlw g' hown (by rw [← e]; exact hk)), h.low, h.sep⟩, hop.mono (fun k _ e => .inr (.inl (by rw [hown, e]))), fun k hk => .inl hk⟩
  show World.ownsRow _ _ _ _ _ (P.l.set i c).length (gCells (P.l.set i c))
  rw [e', List.length_set]
  refine ownsRow_of_blk (by rw [gCells_len, List.length_set]) a1 hb a3 a4 ?_
  rw [List.length_append, gCells_len] at a5
  rw [List.length_append, gCells_len, List.length_set]
  exact a5
theorem Gw.not_ (h : Gw w lo p P R vl vr vw) {q t : Nat} {cs : List Value} (hb : Blk w q cs t) (h1 : t ≠ 60) (h2 : t ≠ 97) (h3 : t ≠ 3) : ¬ gfoot p vl vr vw q := fun hf => by
  rcases hf with rfl | e | e | e
  · exact h1 (hb.inj h.blk).2
  · exact ownsRow_ne h.row hb h2 e
  · exact ownsRow_ne h.rr hb h3 e
  · exact ownsRow_ne h.wt hb h3 e
theorem Gw.row_ne (h : Gw w lo p P R vl vr vw) {b e size n : Nat} {v : Value} {xs : List Value} (hr : w.ownsRow b e size v n xs) (h1 : e ≠ 60) (h2 : e ≠ 97) (h3 : e ≠ 3) : ∀ k, v.ownBlock = some k → ¬ gfoot p vl vr vw k := fun k hk => by
  rcases hr.2 with ⟨rfl, _⟩ | ⟨g, cap, cur, rfl, _, hg, _⟩
  · cases hk
  · simp only [Value.ownBlock, Option.some.injEq] at hk
    subst hk
    exact h.not_ (q := g) (t := e) (cs := cur.toList) hg h1 h2 h3
end
theorem Try.info97 : (Try.prog.info? 97).map (fun i => (i.zero, i.size, i.bytes)) = some (some (.agg #[.int .i64 0, .int .i64 0, .int .i64 0, .int .i64 0, .int .i64 0]), 5, 40) := by kernel_rfl
theorem Try.info82 : (Try.prog.info? 82).map (fun i => (i.zero, i.size, i.bytes)) = some (some (.agg #[.int .i64 0, .int .i64 0, .int .i64 0]), 3, 24) := by kernel_rfl
theorem zero97 : ∀ w : World, (zeroValue 97).run Try.prog w = .ok (.agg #[.int .i64 0, .int .i64 0, .int .i64 0, .int .i64 0, .int .i64 0]) w := fun w => by kernel_rfl
theorem zero82 : ∀ w : World, (zeroValue 82).run Try.prog w = .ok (.agg #[.int .i64 0, .int .i64 0, .int .i64 0]) w := fun w => by kernel_rfl
theorem zero60 : ∀ w : World, (zeroValue 60).run Try.prog w = .ok (.agg #[.int .i64 0, .int .i64 0, .int .i64 0, .int .i64 0, .int .i64 0, .slice none 0 0, .slice none 0 0, .slice none 0 0]) w := fun w => by kernel_rfl
end Go.Proofs.Ytmpcffkandmacaa
