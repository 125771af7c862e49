/- A pool as the walks see it. -/
import Derived.Test.YtmpcffkandmacaaProg
import Derived.Test.YtmpcffkandmacaaLib2
import Derived.Test.YtmpcffkandmacaaPlain
import Derived.RegionTactic
import Derived.BigRegion
import Derived.BigQuiet
import Derived.Deep.QuietTactic
import Derived.StillTailTactics
import Derived.Deep.RegionWith
import Derived.Deep.RegionLaw
import Derived.Deep.RegionHeld3
import Derived.Deep.Cut
import Derived.LoopTactic
import Derived.KernelRfl
namespace Go.Proofs.Ytmpcffkandmacaa
open Go.RowKit
set_option linter.unusedVariables false
set_option linter.unusedSimpArgs false

/-- A row that the call owns, its block known whole. -/
theorem ownsRow_blk {w : World} {lo e size n : Nat} {v : Value} {xs : List Value} (h : w.ownsRow lo e size v n xs) (hn : 0 < n) :
    ∃ g cap C, v = .slice (some ⟨g, 0, none⟩) n cap ∧ lo ≤ g ∧ Blk w g (xs ++ C) e ∧ n ≤ cap ∧ cap ≤ maxLen ∧ (xs ++ C).length = cap * size := by
  rcases h.2 with ⟨rfl, rfl⟩ | ⟨g, cap, cur, rfl, hb, hg, h1, h2, h3, h4⟩
  · have := h.1; simp at this
    exact ⟨0, 0, [], by omega⟩
  · refine ⟨g, cap, cur.toList.drop (n * size), rfl, hb, ?_, h1, h2, ?_⟩
    · show _ = _
      rw [hg, ← h4, List.take_append_drop]
    · rw [← h4, List.take_append_drop]
      simpa using h3
theorem ownsRow_of_blk {w : World} {lo e size n g cap : Nat} {xs C : List Value} (hx : xs.length = n * size) (hg : lo ≤ g) (hb : Blk w g (xs ++ C) e) (h1 : n ≤ cap) (h2 : cap ≤ maxLen) (h3 : (xs ++ C).length = cap * size) :
    w.ownsRow lo e size (.slice (some ⟨g, 0, none⟩) n cap) n xs :=
  ⟨hx, .inr ⟨g, cap, (xs ++ C).toArray, rfl, hg, hb, h1, h2, by simpa using h3, by rw [← hx]; simp⟩⟩
theorem own_own_ne {w : World} {lo lo' e e' size size' n n' : Nat} {v v' : Value} {xs xs' : List Value} (h : w.ownsRow lo e size v n xs) (h' : w.ownsRow lo' e' size' v' n' xs') (hne : e ≠ e') (k : Nat) (hk : v.ownBlock = some k) : v'.ownBlock ≠ some k := by
  intro hk'
  rcases h.2 with ⟨rfl, _⟩ | ⟨g, cap, cur, rfl, _, hg, _⟩
  · cases hk
  · rcases h'.2 with ⟨rfl, _⟩ | ⟨g', cap', cur', rfl, _, hg', _⟩
    · cases hk'
    · simp only [Value.ownBlock, Option.some.injEq] at hk hk'
      subst hk hk'
      rw [hg] at hg'
      simp only [Option.some.injEq, Obj.cells.injEq] at hg'
      exact hne hg'.2.1

/-- Rows of structs: their cells. -/
theorem flat_len {α : Type} {f : α → List Value} {k : Nat} (hk : ∀ x, (f x).length = k) (l : List α) : (l.flatMap f).length = l.length * k := by
  induction l with
  | nil => simp
  | cons t r ih => rw [List.flatMap_cons, List.length_append, ih, List.length_cons, hk, Nat.succ_mul]; omega
theorem flat_get {α : Type} {f : α → List Value} {k : Nat} (hk : ∀ x, (f x).length = k) : ∀ {l : List α} {i j : Nat} (hi : i < l.length) (hj : j < k), (l.flatMap f)[i * k + j]? = (f l[i])[j]?
  | [], i, j, hi, _ => absurd hi (Nat.not_lt_zero _)
  | t :: r, 0, j, _, hj => by
    rw [List.flatMap_cons, List.getElem?_append_left (by rw [hk]; omega)]
    simp
  | t :: r, i + 1, j, hi, hj => by
    rw [List.flatMap_cons, List.getElem?_append_right (by rw [hk, Nat.succ_mul]; omega), hk, show (i + 1) * k + j - k = i * k + j by rw [Nat.succ_mul]; omega, flat_get hk (by simpa using hi) hj]
    simp
def acC (x : Ac) : List Value := [.int .i64 x.kind, .int .i64 x.conn, .int .i64 x.who]
def acCells (l : List Ac) : List Value := l.flatMap acC
theorem acC_len (x : Ac) : (acC x).length = 3 := rfl
theorem acCells_len (l : List Ac) : (acCells l).length = l.length * 3 := flat_len acC_len l
theorem acCells_append (a b : List Ac) : acCells (a ++ b) = acCells a ++ acCells b := by simp [acCells]
theorem ac_one (l : List Ac) : ∀ u ∈ acCells l, u.oneCell' = true := by
  intro u hu
  obtain ⟨x, _, hx⟩ := List.mem_flatMap.1 hu
  simp only [acC, List.mem_cons, List.not_mem_nil, or_false] at hx
  rcases hx with rfl | rfl | rfl <;> rfl
theorem cells_new (w : World) (xs : List Value) (t : TypeId) : ∀ j u, xs[j]? = some u → (w.alloc (.cells xs.toArray t)).cell? ((⟨w.heap.size, 0, none⟩ : Addr).add j) = some u := by
  intro j u hu
  have h := (Blk.new w xs t).cell j u hu
  have e : ((⟨w.heap.size, 0, none⟩ : Addr).add j) = ⟨w.heap.size, j, none⟩ := by rw [Go.WideShapes.add_plain, Nat.zero_add]
  rw [e]
  exact h
def ints (l : List Int) : List Value := l.map fun n => Value.int .i64 n
theorem ints_len (l : List Int) : (ints l).length = l.length := by simp [ints]
theorem ints_get {l : List Int} {i : Nat} (h : i < l.length) : (ints l)[i]? = some (.int .i64 (l.getD i 0)) := by simp [ints, List.getD_eq_getElem?_getD, h]
theorem ints_append (a b : List Int) : ints (a ++ b) = ints a ++ ints b := by simp [ints]

theorem only_p (w : World) (p i : Nat) (v : Value) : Only (fun k => k = p) w (w.setCell ⟨p, i, none⟩ v) := (Only.refl (fun k => k = p) w).setCell (p := ⟨p, i, none⟩) (fun _ => rfl) v
/-- From w to w' the blocks of F alone have turned; F' are of them or new. -/
structure Mv (F F' : Nat → Prop) (w w' : World) : Prop where
  only : Only F w w'
  new_ : ∀ k, F' k → F k ∨ w.heap.size ≤ k
theorem Mv.refl (F : Nat → Prop) (w : World) : Mv F F w w := ⟨Only.refl _ _, fun _ h => .inl h⟩
theorem Mv.trans {F G H : Nat → Prop} {a b c : World} (h : Mv F G a b) (k : Mv G H b c) : Mv F H a c :=
  ⟨h.only.trans k.only (fun i hi hg => (h.new_ i hg).elim id (fun hl => by omega)), fun i hi => (k.new_ i hi).elim (h.new_ i) (fun hl => .inr (Nat.le_trans h.only.size hl))⟩
theorem Mv.of_only {F : Nat → Prop} {a b : World} (h : Only (fun _ => False) a b) : Mv F F a b := ⟨h.mono (fun _ _ h => h.elim), fun _ h => .inl h⟩

/-- Who waits: a row of the call's own, or what is left of one behind its head. -/
def WRow (w : World) (lo : Nat) (v : Value) (l : List Int) : Prop :=
  w.ownsRow lo 3 1 v l.length (ints l) ∨ ∃ g off cs, v = .slice (some ⟨g, off, none⟩) l.length l.length ∧ lo ≤ g ∧ Blk w g cs 3 ∧ off + l.length ≤ cs.length ∧ l.length ≤ maxLen ∧ ∀ i, i < l.length → cs[off + i]? = some (.int .i64 (l.getD i 0))
theorem WRow.nil (w : World) (lo : Nat) : WRow w lo (.slice none 0 0) [] := .inl (World.ownsRow_nil _ _ _ _)
theorem WRow.lt {w : World} {lo : Nat} {v : Value} {l : List Int} (h : WRow w lo v l) : ∀ k, v.ownBlock = some k → lo ≤ k ∧ k < w.heap.size := fun k hk => by
  rcases h with h | ⟨g, off, cs, rfl, h1, h2, _⟩
  · exact ownsRow_lt h k hk
  · simp only [Value.ownBlock, Option.some.injEq] at hk
    subst hk
    exact ⟨h1, h2.lt⟩
theorem WRow.only {S : Nat → Prop} {w w' : World} {lo : Nat} {v : Value} {l : List Int} (h : WRow w lo v l) (ho : Only S w w') (hn : ∀ k, v.ownBlock = some k → ¬ S k) : WRow w' lo v l := by
  rcases h with h | ⟨g, off, cs, rfl, h1, h2, h3⟩
  · exact .inl (owns_only h ho hn)
  · exact .inr ⟨g, off, cs, rfl, h1, h2.only ho (hn g rfl), h3⟩
theorem WRow.ne {w : World} {lo b t : Nat} {v : Value} {l : List Int} {cs : List Value} (h : WRow w lo v l) (hb : Blk w b cs t) (ht : t ≠ 3) : v.ownBlock ≠ some b := by
  rcases h with h | ⟨g, off, cs', rfl, h1, h2, _⟩
  · exact ownsRow_ne h hb ht
  · intro e
    simp only [Value.ownBlock, Option.some.injEq] at e
    subst e
    exact ht (hb.inj h2).2
theorem WRow.slice {w : World} {lo : Nat} {v : Value} {l : List Int} (h : WRow w lo v l) :
    ∃ ao cap, v = .slice ao l.length cap ∧ l.length ≤ cap ∧ cap ≤ maxLen ∧ (ao = none → cap = 0) ∧ (0 < l.length → ∃ g off, ao = some ⟨g, off, none⟩ ∧ v.ownBlock = some g ∧ g < w.heap.size ∧ ∀ i, i < l.length → w.cell? ⟨g, off + i, none⟩ = some (.int .i64 (l.getD i 0))) := by
  rcases h with h | ⟨g, off, cs, rfl, h1, h2, h3, h4, h5⟩
  · obtain ⟨ao, cap, rfl, a1, a2, a3, a4⟩ := ownsRow_slice h
    refine ⟨ao, cap, rfl, a1, a2, a3, fun h0 => ?_⟩
    obtain ⟨g, rfl, hg⟩ := a4 h0
    refine ⟨g, 0, rfl, hg, (ownsRow_lt h g hg).2, fun i hi => ?_⟩
    rw [Nat.zero_add, ownsRow_cell h hg i hi, ints_get hi]
  · exact ⟨_, _, rfl, Nat.le_refl _, h4, (fun h => by cases h), fun _ => ⟨g, off, rfl, rfl, h2.lt, fun i hi => by rw [h2.cellAt]; exact h5 i hi⟩⟩
/-- Behind its head. -/
theorem WRow.tail {w : World} {lo : Nat} {u : Int} {l : List Int} {g off cap : Nat} (h : WRow w lo (.slice (some ⟨g, off, none⟩) (u :: l).length cap) (u :: l)) : WRow w lo (.slice (some ⟨g, off + 1, none⟩) l.length l.length) l := by
  rcases h with h | ⟨g', off', cs, e, h1, h2, h3, h4, h5⟩
  · obtain ⟨g', cap', C, e, a1, a2, a3, a4, a5⟩ := ownsRow_blk h (by simp)
    injection e with e1 _ e3
    injection e1 with e1
    injection e1 with e1 e2
    subst e1 e2 e3
    refine .inr ⟨g, 1, _, rfl, a1, a2, by simp only [List.length_append, ints_len, List.length_cons]; omega, by simp only [List.length_cons] at a3; omega, fun i hi => ?_⟩
    rw [List.getElem?_append_left (by simp only [ints_len, List.length_cons]; omega), Nat.add_comm 1 i]
    show (ints (u :: l))[i + 1]? = _
    rw [ints_get (by simp only [List.length_cons]; omega)]
    rfl
  · injection e with e1 _ e3
    injection e1 with e1
    injection e1 with e1 e2
    subst e1 e2
    simp only [List.length_cons] at h3 h4
    refine .inr ⟨g, off + 1, cs, rfl, h1, h2, by omega, by omega, fun i hi => ?_⟩
    rw [show off + 1 + i = off + (i + 1) by omega, h5 (i + 1) (by simp only [List.length_cons]; omega)]
    rfl

def cnC (c : Cn) : List Value := [.int .i64 c.num, .int .i64 c.st, .int .i64 c.who, .int .i64 c.since, .int .i64 c.born, .int .i64 c.nth]
def ppC (P : Pp) (vl vw : Value) : List Value := [.int .i64 P.cap, .int .i64 P.pend, .int .i64 P.idle, .int .i64 P.life, .int .i64 P.next, .int .i64 P.rested, vl, vw]
abbrev ptr (b : Nat) : Value := .pointer (some ⟨b, 0, none⟩)
def ptrs (X : List (Nat × Cn)) : List Value := X.map fun x => ptr x.1
theorem ptrs_len (X : List (Nat × Cn)) : (ptrs X).length = X.length := by simp [ptrs]
theorem ptrs_one (X : List (Nat × Cn)) : ∀ u ∈ ptrs X, u.oneCell' = true := by
  intro u hu
  obtain ⟨x, _, rfl⟩ := List.mem_map.1 hu
  rfl
def foot (p : Nat) (X : List (Nat × Cn)) (vl vw : Value) : Nat → Prop := fun k => k = p ∨ (∃ x ∈ X, x.1 = k) ∨ vl.ownBlock = some k ∨ vw.ownBlock = some k

/-- The pool at block p: its connections each in a block of its own. -/
structure Pw (w : World) (lo p : Nat) (P : Pp) (X : List (Nat × Cn)) (vl vw : Value) : Prop where
  blk : Blk w p (ppC P vl vw) 63
  row : w.ownsRow lo 65 1 vl X.length (ptrs X)
  wt : WRow w lo vw P.waits
  low : lo ≤ p
  l : P.l = X.map (·.2)
  ne : ∀ (i j : Nat) (x y : Nat × Cn), X[i]? = some x → X[j]? = some y → x.1 = y.1 → i = j
  cn : ∀ x ∈ X, Blk w x.1 (cnC x.2) 71 ∧ lo ≤ x.1

section
variable {w : World} {lo p : Nat} {P : Pp} {X : List (Nat × Cn)} {vl vw : Value}
theorem Pw.len (h : Pw w lo p P X vl vw) : P.l.length = X.length := by rw [h.l]; simp
theorem Pw.at_ (h : Pw w lo p P X vl vw) {i : Nat} (hi : i < P.l.length) : ∃ b, X[i]? = some (b, cnAt P.l i) := by
  have hx : i < X.length := by rw [← h.len]; exact hi
  refine ⟨(X[i]).1, ?_⟩
  rw [List.getElem?_eq_getElem hx, cnAt_eq hi]
  simp only [h.l, List.getElem_map]
theorem Pw.cnAt_ (h : Pw w lo p P X vl vw) {i b : Nat} {c : Cn} (hi : X[i]? = some (b, c)) : i < P.l.length ∧ cnAt P.l i = c ∧ Blk w b (cnC c) 71 ∧ lo ≤ b := by
  obtain ⟨hx, e⟩ := List.getElem?_eq_some_iff.1 hi
  have hl : i < P.l.length := by rw [h.len]; exact hx
  refine ⟨hl, ?_, ?_⟩
  · rw [cnAt_eq hl]; simp only [h.l, List.getElem_map]; rw [e]
  · have := h.cn (b, c) (by rw [← e]; exact List.getElem_mem hx)
    exact this
theorem Pw.np (h : Pw w lo p P X vl vw) : ∀ x ∈ X, x.1 ≠ p := fun x hx e => by have := (h.cn x hx).1; rw [e] at this; exact absurd (this.inj h.blk).2 (by decide)
theorem Pw.nl (h : Pw w lo p P X vl vw) : vl.ownBlock ≠ some p := ownsRow_ne h.row h.blk (by decide)
theorem Pw.nw (h : Pw w lo p P X vl vw) : vw.ownBlock ≠ some p := h.wt.ne h.blk (by decide)
theorem Pw.nlc (h : Pw w lo p P X vl vw) : ∀ x ∈ X, vl.ownBlock ≠ some x.1 := fun x hx => ownsRow_ne h.row (h.cn x hx).1 (by decide)
theorem Pw.nwc (h : Pw w lo p P X vl vw) : ∀ x ∈ X, vw.ownBlock ≠ some x.1 := fun x hx => h.wt.ne (h.cn x hx).1 (by decide)
theorem Pw.nlw (h : Pw w lo p P X vl vw) : ∀ k, vl.ownBlock = some k → vw.ownBlock ≠ some k := fun k hk hw => by
  rcases h.row.2 with ⟨rfl, _⟩ | ⟨g, cap, cur, rfl, _, hg, _⟩
  · cases hk
  · simp only [Value.ownBlock, Option.some.injEq] at hk
    subst hk
    exact h.wt.ne (b := g) (t := 65) (cs := cur.toList) hg (by decide) hw
theorem Pw.lt (h : Pw w lo p P X vl vw) : ∀ k, foot p X vl vw k → lo ≤ k ∧ k < w.heap.size := fun k hk => by
  rcases hk with rfl | ⟨x, hx, rfl⟩ | hk | hk
  · exact ⟨h.low, h.blk.lt⟩
  · exact ⟨(h.cn x hx).2, (h.cn x hx).1.lt⟩
  · exact ownsRow_lt h.row k hk
  · exact h.wt.lt k hk
theorem Pw.only {S : Nat → Prop} {w' : World} (h : Pw w lo p P X vl vw) (ho : Only S w w') (hd : ∀ k, foot p X vl vw k → ¬ S k) : Pw w' lo p P X vl vw :=
  ⟨h.blk.only ho (hd p (.inl rfl)), owns_only h.row ho (fun k hk => hd k (.inr (.inr (.inl hk)))), h.wt.only ho (fun k hk => hd k (.inr (.inr (.inr hk)))), h.low, h.l, h.ne,
    fun x hx => ⟨(h.cn x hx).1.only ho (hd x.1 (.inr (.inl ⟨x, hx, rfl⟩))), (h.cn x hx).2⟩⟩
/-- A number of the pool's is turned. -/
theorem Pw.setF (h : Pw w lo p P X vl vw) {P' : Pp} {i : Nat} {u : Value} (e : ppC P' vl vw = (ppC P vl vw).set i u) (hl : P'.l = P.l) (hw : P'.waits = P.waits) : Pw (w.setCell ⟨p, i, none⟩ u) lo p P' X vl vw :=
  ⟨by rw [e]; exact h.blk.set i u, owns_only h.row (only_p w p i u) (fun k hk e => h.nl (by rw [hk, e])), by rw [hw]; exact h.wt.only (only_p w p i u) (fun k hk e => h.nw (by rw [hk, e])), h.low, by rw [hl]; exact h.l, h.ne,
    fun x hx => ⟨(h.cn x hx).1.only (only_p w p i u) (h.np x hx), (h.cn x hx).2⟩⟩
/-- A connection's number is turned. -/
theorem Pw.setC (h : Pw w lo p P X vl vw) {i b : Nat} {c c' : Cn} (hi : X[i]? = some (b, c)) {j : Nat} {u : Value} (e : cnC c' = (cnC c).set j u) : Pw (w.setCell ⟨b, j, none⟩ u) lo p { P with l := P.l.set i c' } (X.set i (b, c')) vl vw := by
  obtain ⟨hx, ei⟩ := List.getElem?_eq_some_iff.1 hi
  have hmem : (b, c) ∈ X := by rw [← ei]; exact List.getElem_mem hx
  have hb := (h.cn _ hmem).1
  have ep : ptrs (X.set i (b, c')) = ptrs X := by
    unfold ptrs
    rw [List.map_set]
    refine List.ext_getElem? fun k => ?_
    rw [List.getElem?_set]
    split
    · rename_i hk
      subst hk
      rw [if_pos (by simpa using hx), List.getElem?_map, hi]
      rfl
    · rfl
  have g1 : ∀ k x, (X.set i (b, c'))[k]? = some x → ∃ y, X[k]? = some y ∧ y.1 = x.1 ∧ (k = i → x = (b, c')) ∧ (k ≠ i → y = x) := fun k x hk => by
    rw [List.getElem?_set] at hk
    split at hk
    · rename_i hk2
      subst hk2
      first | rw [if_pos hx] at hk | skip
      injection hk with hk
      subst hk
      exact ⟨_, hi, rfl, fun _ => rfl, fun h => absurd rfl h⟩
    · rename_i hk2
      exact ⟨x, hk, rfl, fun h => absurd h.symm hk2, fun _ => rfl⟩
  refine ⟨h.blk.only (only_p w b j u) (fun e => h.np _ hmem e.symm), ?_, h.wt.only (only_p w b j u) (fun k hk e => h.nwc _ hmem (by rw [hk, e])), h.low, ?_, ?_, ?_⟩
  · rw [ep, List.length_set]
    exact owns_only h.row (only_p w b j u) (fun k hk e => h.nlc _ hmem (by rw [hk, e]))
  · show P.l.set i c' = _
    rw [h.l, List.map_set]
  · intro k m x y hk hm e
    obtain ⟨x', a1, a2, _⟩ := g1 k x hk
    obtain ⟨y', b1, b2, _⟩ := g1 m y hm
    exact h.ne k m x' y' a1 b1 (by rw [a2, b2, e])
  · intro x hxm
    obtain ⟨k, hk, ek⟩ := List.getElem_of_mem hxm
    have hk' : (X.set i (b, c'))[k]? = some x := by rw [List.getElem?_eq_getElem hk, ek]
    obtain ⟨y, a1, a2, a3, a4⟩ := g1 k x hk'
    by_cases hki : k = i
    · rw [a3 hki]
      refine ⟨?_, (h.cn _ hmem).2⟩
      rw [e]
      exact hb.set j u
    · have := a4 hki
      subst this
      have hym : y ∈ X := List.mem_of_getElem? a1
      refine ⟨(h.cn y hym).1.only (only_p w b j u) (fun e => ?_), (h.cn y hym).2⟩
      exact hki (h.ne k i y (b, c) a1 hi e)
theorem foot_set {i b : Nat} {c c' : Cn} (hi : X[i]? = some (b, c)) : ∀ k, foot p (X.set i (b, c')) vl vw k ↔ foot p X vl vw k := by
  obtain ⟨hx, ei⟩ := List.getElem?_eq_some_iff.1 hi
  have key : ∀ k, (∃ x ∈ X.set i (b, c'), x.1 = k) ↔ ∃ x ∈ X, x.1 = k := by
    intro k
    constructor
    · rintro ⟨x, hx', rfl⟩
      rcases List.mem_or_eq_of_mem_set hx' with h | rfl
      · exact ⟨x, h, rfl⟩
      · exact ⟨(b, c), by rw [← ei]; exact List.getElem_mem hx, rfl⟩
    · rintro ⟨x, hx', rfl⟩
      obtain ⟨j, hj, rfl⟩ := List.getElem_of_mem hx'
      by_cases hij : i = j
      · subst hij
        exact ⟨(b, c'), List.mem_set hx _, by rw [ei]⟩
      · refine ⟨X[j], ?_, rfl⟩
        have : (X.set i (b, c'))[j]? = some X[j] := by rw [List.getElem?_set_ne hij, List.getElem?_eq_getElem hj]
        exact List.mem_of_getElem? this
  intro k
  unfold foot
  rw [key]
/-- p.l = another row of the same connections. -/
theorem Pw.setL (h : Pw w lo p P X vl vw) {X' : List (Nat × Cn)} {P' : Pp} {v : Value} (e : ppC P' v vw = (ppC P vl vw).set 6 v) (hw : P'.waits = P.waits) (hl : P'.l = X'.map (·.2)) (hr : w.ownsRow lo 65 1 v X'.length (ptrs X')) (hv : v.ownBlock ≠ some p)
    (hne : ∀ (i j : Nat) (x y : Nat × Cn), X'[i]? = some x → X'[j]? = some y → x.1 = y.1 → i = j) (hcn : ∀ x ∈ X', (Blk w x.1 (cnC x.2) 71 ∧ lo ≤ x.1) ∧ x.1 ≠ p) : Pw (w.setCell ⟨p, 6, none⟩ v) lo p P' X' v vw :=
  ⟨by rw [e]; exact h.blk.set 6 v, owns_only hr (only_p w p 6 v) (fun k hk e => hv (by rw [hk, e])), by rw [hw]; exact h.wt.only (only_p w p 6 v) (fun k hk e => h.nw (by rw [hk, e])), h.low, hl, hne,
    fun x hx => ⟨(hcn x hx).1.1.only (only_p w p 6 v) (hcn x hx).2, (hcn x hx).1.2⟩⟩
/-- p.waits = another row. -/
theorem Pw.setW (h : Pw w lo p P X vl vw) {P' : Pp} {v : Value} (e : ppC P' vl v = (ppC P vl vw).set 7 v) (hl : P'.l = P.l) (hr : WRow w lo v P'.waits) : Pw (w.setCell ⟨p, 7, none⟩ v) lo p P' X vl v :=
  ⟨by rw [e]; exact h.blk.set 7 v, owns_only h.row (only_p w p 7 v) (fun k hk e => h.nl (by rw [hk, e])), hr.only (only_p w p 7 v) (fun k hk e => hr.ne h.blk (by decide) (by rw [hk, e])), h.low, by rw [hl]; exact h.l, h.ne,
    fun x hx => ⟨(h.cn x hx).1.only (only_p w p 7 v) (h.np x hx), (h.cn x hx).2⟩⟩
end
theorem info_parts {n : TypeId} {z : Value} {s b : Nat} (h : (Try.prog.info? n).map (fun i => (i.zero, i.size, i.bytes)) = some (some z, s, b)) : ∃ i, Try.prog.info? n = some i ∧ i.zero = some z ∧ i.size = s ∧ i.bytes = b := by
  cases hi : Try.prog.info? n with
  | none => rw [hi] at h; cases h
  | some i =>
    rw [hi] at h
    simp only [Option.map_some, Option.some.injEq, Prod.mk.injEq] at h
    exact ⟨i, rfl, h.1, h.2.1, h.2.2⟩
theorem Try.info27 : (Try.prog.info? 27).map (fun i => (i.zero, i.size, i.bytes)) = some (some (.agg #[.int .i64 0, .int .i64 0, .int .i64 0]), 3, 24) := by kernel_rfl
theorem Try.info65 : (Try.prog.info? 65).map (fun i => (i.zero, i.size, i.bytes)) = some (some (.pointer none), 1, 8) := by kernel_rfl
theorem Try.info3 : (Try.prog.info? 3).map (fun i => (i.zero, i.size, i.bytes)) = some (some (.int .i64 0), 1, 8) := by kernel_rfl
end Go.Proofs.Ytmpcffkandmacaa
