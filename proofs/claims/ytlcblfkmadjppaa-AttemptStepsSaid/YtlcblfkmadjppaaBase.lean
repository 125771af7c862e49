/- A request as the walks see it. -/
import Derived.Test.YtlcblfkmadjppaaProg
import Derived.Test.YtlcblfkmadjppaaLib2
import Derived.Test.YtlcblfkmadjppaaPlain
import Derived.RegionTactic
import Derived.BigRegion
import Derived.BigQuiet
import Derived.Deep.QuietTactic
import Derived.StillTailTactics
import Derived.Deep.RegionWith
import Derived.Deep.RegionLaw
import Derived.Deep.RegionHeld3
import Derived.Deep.Cut
import Derived.LoopTactic
import Derived.KernelRfl
namespace Go.Proofs.Ytlcblfkmadjppaa
open Go.RowKit
set_option linter.unusedVariables false
set_option linter.unusedSimpArgs false

/-- A row that the call owns, its block known whole. -/
theorem ownsRow_blk {w : World} {lo e size n : Nat} {v : Value} {xs : List Value} (h : w.ownsRow lo e size v n xs) (hn : 0 < n) :
    ∃ g cap C, v = .slice (some ⟨g, 0, none⟩) n cap ∧ lo ≤ g ∧ Blk w g (xs ++ C) e ∧ n ≤ cap ∧ cap ≤ maxLen ∧ (xs ++ C).length = cap * size := by
  rcases h.2 with ⟨rfl, rfl⟩ | ⟨g, cap, cur, rfl, hb, hg, h1, h2, h3, h4⟩
  · have := h.1; simp at this
    exact ⟨0, 0, [], by omega⟩
  · refine ⟨g, cap, cur.toList.drop (n * size), rfl, hb, ?_, h1, h2, ?_⟩
    · show _ = _
      rw [hg, ← h4, List.take_append_drop]
    · rw [← h4, List.take_append_drop]
      simpa using h3
theorem ownsRow_of_blk {w : World} {lo e size n g cap : Nat} {xs C : List Value} (hx : xs.length = n * size) (hg : lo ≤ g) (hb : Blk w g (xs ++ C) e) (h1 : n ≤ cap) (h2 : cap ≤ maxLen) (h3 : (xs ++ C).length = cap * size) :
    w.ownsRow lo e size (.slice (some ⟨g, 0, none⟩) n cap) n xs :=
  ⟨hx, .inr ⟨g, cap, (xs ++ C).toArray, rfl, hg, hb, h1, h2, by simpa using h3, by rw [← hx]; simp⟩⟩
theorem own_own_ne {w : World} {lo lo' e e' size size' n n' : Nat} {v v' : Value} {xs xs' : List Value} (h : w.ownsRow lo e size v n xs) (h' : w.ownsRow lo' e' size' v' n' xs') (hne : e ≠ e') (k : Nat) (hk : v.ownBlock = some k) : v'.ownBlock ≠ some k := by
  intro hk'
  rcases h.2 with ⟨rfl, _⟩ | ⟨g, cap, cur, rfl, _, hg, _⟩
  · cases hk
  · rcases h'.2 with ⟨rfl, _⟩ | ⟨g', cap', cur', rfl, _, hg', _⟩
    · cases hk'
    · simp only [Value.ownBlock, Option.some.injEq] at hk hk'
      subst hk hk'
      rw [hg] at hg'
      simp only [Option.some.injEq, Obj.cells.injEq] at hg'
      exact hne hg'.2.1

/-- Rows of structs: their cells. -/
theorem flat_len {α : Type} {f : α → List Value} {k : Nat} (hk : ∀ x, (f x).length = k) (l : List α) : (l.flatMap f).length = l.length * k := by
  induction l with
  | nil => simp
  | cons t r ih => rw [List.flatMap_cons, List.length_append, ih, List.length_cons, hk, Nat.succ_mul]; omega
theorem flat_get {α : Type} {f : α → List Value} {k : Nat} (hk : ∀ x, (f x).length = k) : ∀ {l : List α} {i j : Nat} (hi : i < l.length) (hj : j < k), (l.flatMap f)[i * k + j]? = (f l[i])[j]?
  | [], i, j, hi, _ => absurd hi (Nat.not_lt_zero _)
  | t :: r, 0, j, _, hj => by
    rw [List.flatMap_cons, List.getElem?_append_left (by rw [hk]; omega)]
    simp
  | t :: r, i + 1, j, hi, hj => by
    rw [List.flatMap_cons, List.getElem?_append_right (by rw [hk, Nat.succ_mul]; omega), hk, show (i + 1) * k + j - k = i * k + j by rw [Nat.succ_mul]; omega, flat_get hk (by simpa using hi) hj]
    simp
def runC (x : Run) : List Value := [.int .i64 x.id, .int .i64 x.since]
def acC (x : Ac) : List Value := [.int .i64 x.kind, .int .i64 x.id, .int .i64 x.n]
def runCells (l : List Run) : List Value := l.flatMap runC
def acCells (l : List Ac) : List Value := l.flatMap acC
theorem runC_len (x : Run) : (runC x).length = 2 := rfl
theorem acC_len (x : Ac) : (acC x).length = 3 := rfl
theorem runCells_len (l : List Run) : (runCells l).length = l.length * 2 := flat_len runC_len l
theorem acCells_len (l : List Ac) : (acCells l).length = l.length * 3 := flat_len acC_len l
theorem runCells_append (a b : List Run) : runCells (a ++ b) = runCells a ++ runCells b := by simp [runCells]
theorem acCells_append (a b : List Ac) : acCells (a ++ b) = acCells a ++ acCells b := by simp [acCells]
theorem ac_one (l : List Ac) : ∀ u ∈ acCells l, u.oneCell' = true := by
  intro u hu
  obtain ⟨x, _, hx⟩ := List.mem_flatMap.1 hu
  simp only [acC, List.mem_cons, List.not_mem_nil, or_false] at hx
  rcases hx with rfl | rfl | rfl <;> rfl
theorem run_one (l : List Run) : ∀ u ∈ runCells l, u.oneCell' = true := by
  intro u hu
  obtain ⟨x, _, hx⟩ := List.mem_flatMap.1 hu
  simp only [runC, List.mem_cons, List.not_mem_nil, or_false] at hx
  rcases hx with rfl | rfl <;> rfl
theorem cells_new (w : World) (cs : List Value) (t : TypeId) : ∀ j u, cs[j]? = some u → (w.alloc (.cells cs.toArray t)).cell? ((⟨w.heap.size, 0, none⟩ : Addr).add j) = some u := by
  intro j u hu
  rw [Go.WideShapes.add_plain, Nat.zero_add]
  exact ((Blk.new w cs t).cellAt j).trans hu

/-- How the footprint moves: only what was in it turns, and what is new in it was made since. -/
structure Mv (F F' : Nat → Prop) (w w' : World) : Prop where
  only : Only F w w'
  new_ : ∀ k, F' k → F k ∨ w.heap.size ≤ k
theorem Mv.refl (F : Nat → Prop) (w : World) : Mv F F w w := ⟨Only.refl _ _, fun _ h => .inl h⟩
theorem Mv.trans {F G H : Nat → Prop} {a b c : World} (h : Mv F G a b) (k : Mv G H b c) : Mv F H a c :=
  ⟨h.only.trans k.only (fun i hi hg => (h.new_ i hg).elim id (fun hl => by omega)), fun i hi => (k.new_ i hi).elim (h.new_ i) (fun hl => .inr (Nat.le_trans h.only.size hl))⟩
theorem Mv.of_only {F : Nat → Prop} {a b : World} (h : Only (fun _ => False) a b) : Mv F F a b := ⟨h.mono (fun _ _ h => h.elim), fun _ h => .inl h⟩

def rqCells (r : Rq) (vr vo : Value) : List Value :=
  [.int .i64 r.pl.retries, .int .i64 r.pl.hedges, .int .i64 r.pl.after, .int .i64 r.pl.per, .int .i64 r.pl.total, .bool r.pl.safe, .int .i64 r.since, .int .i64 r.last, .int .i64 r.made, .int .i64 r.again, .int .i64 r.hedged, vr, .bool r.over, .bool r.tame, vo]
def foot (p : Nat) (vr vo : Value) : Nat → Prop := fun k => k = p ∨ vr.ownBlock = some k ∨ vo.ownBlock = some k

/-- The request at block p: what runs and what was said in rows of the call's own. -/
structure Rw (w : World) (lo p : Nat) (r : Rq) (vr : Value) (o : List Ac) (vo : Value) : Prop where
  blk : Blk w p (rqCells r vr vo) 60
  runs : w.ownsRow lo 64 2 vr r.runs.length (runCells r.runs)
  out : w.ownsRow lo 37 3 vo o.length (acCells o)
  low : lo ≤ p

section
variable {F : Nat → Prop} {w : World} {lo p : Nat} {r : Rq} {vr vo : Value} {o : List Ac}

theorem Rw.nr (h : Rw w lo p r vr o vo) : vr.ownBlock ≠ some p := ownsRow_ne h.runs h.blk (by decide)
theorem Rw.no (h : Rw w lo p r vr o vo) : vo.ownBlock ≠ some p := ownsRow_ne h.out h.blk (by decide)
theorem Rw.lt (h : Rw w lo p r vr o vo) : ∀ k, foot p vr vo k → lo ≤ k ∧ k < w.heap.size := fun k hk => by
  rcases hk with rfl | hk | hk
  · exact ⟨h.low, h.blk.lt⟩
  · exact ownsRow_lt h.runs k hk
  · exact ownsRow_lt h.out k hk
theorem Rw.only {S : Nat → Prop} {w' : World} (h : Rw w lo p r vr o vo) (ho : Only S w w') (hd : ∀ k, foot p vr vo k → ¬ S k) : Rw w' lo p r vr o vo :=
  ⟨h.blk.only ho (hd p (.inl rfl)), owns_only h.runs ho (fun k hk => hd k (.inr (.inl hk))), owns_only h.out ho (fun k hk => hd k (.inr (.inr hk))), h.low⟩
theorem only_p (w : World) (p i : Nat) (u : Value) : Only (fun k => k = p) w (w.setCell ⟨p, i, none⟩ u) := (Only.refl (fun k => k = p) w).setCell (p := ⟨p, i, none⟩) (fun _ => rfl) _
/-- A field that is no row is turned. -/
theorem Rw.setF (h : Rw w lo p r vr o vo) {r' : Rq} {i : Nat} {u : Value} (e : rqCells r' vr vo = (rqCells r vr vo).set i u) (er : r'.runs = r.runs) :
    Rw (w.setCell ⟨p, i, none⟩ u) lo p r' vr o vo ∧ Mv (foot p vr vo) (foot p vr vo) w (w.setCell ⟨p, i, none⟩ u) := by
  refine ⟨⟨by rw [e]; exact h.blk.set i u, ?_, owns_only h.out (only_p w p i u) (fun k hk e => h.no (by rw [hk, e])), h.low⟩, (only_p w p i u).mono (fun k _ e => .inl e), fun k hk => .inl hk⟩
  rw [er]
  exact owns_only h.runs (only_p w p i u) (fun k hk e => h.nr (by rw [hk, e]))
/-- Another row of acts. -/
theorem Rw.setOut (h : Rw w lo p r vr o vo) {v : Value} {o' : List Ac} (hown : w.ownsRow lo 37 3 v o'.length (acCells o')) (hp : v.ownBlock ≠ some p) :
    Rw (w.setCell ⟨p, 14, none⟩ v) lo p r vr o' v :=
  ⟨h.blk.set 14 v, owns_only h.runs (only_p w p 14 v) (fun k hk e => h.nr (by rw [hk, e])), owns_only hown (only_p w p 14 v) (fun k hk e => hp (by rw [hk, e])), h.low⟩
/-- Other ones that run. -/
theorem Rw.setRuns (h : Rw w lo p r vr o vo) {v : Value} {r' : Rq} (e : rqCells r' v vo = (rqCells r vr vo).set 11 v) (hown : w.ownsRow lo 64 2 v r'.runs.length (runCells r'.runs)) (hp : v.ownBlock ≠ some p) :
    Rw (w.setCell ⟨p, 11, none⟩ v) lo p r' v o vo :=
  ⟨by rw [e]; exact h.blk.set 11 v, owns_only hown (only_p w p 11 v) (fun k hk e => hp (by rw [hk, e])), owns_only h.out (only_p w p 11 v) (fun k hk e => h.no (by rw [hk, e])), h.low⟩
/-- r.out = append(r.out, ..) -/
theorem Rw.appOut (h : Rw w lo p r vr o vo) {wa w2 : World} {v2 : Value} {n : Nat} {acts : List Ac} (ha : Only (fun _ => False) w wa) (hown : w2.ownsRow lo 37 3 v2 (o.length + acts.length) (acCells o ++ acCells acts))
    (hon : Only (fun i => vo.ownBlock = some i) wa w2) (hat : v2.ownBlock = vo.ownBlock ∨ v2.ownBlock = some n) (hn : w.heap.size ≤ n) :
    Rw (w2.setCell ⟨p, 14, none⟩ v2) lo p r vr (o ++ acts) v2 ∧ Mv (foot p vr vo) (foot p vr v2) w (w2.setCell ⟨p, 14, none⟩ v2) := by
  have h2 := (h.blk.only ha id).only hon (fun e => h.no e)
  have hp := h.blk.lt
  have hr2 : w2.ownsRow lo 64 2 vr r.runs.length (runCells r.runs) := owns_only (owns_only h.runs ha (fun _ _ => id)) hon (fun k hk e => own_own_ne h.runs h.out (by decide) k hk e)
  have hn2 : v2.ownBlock ≠ some p := by
    rcases hat with e | e
    · rw [e]; exact h.no
    · rw [e]; simp only [ne_eq, Option.some.injEq]; omega
  refine ⟨⟨h2.set 14 v2, owns_only hr2 (only_p w2 p 14 v2) (fun k hk e => h.nr (by rw [hk, e])), ?_, h.low⟩, ?_, fun k hk => ?_⟩
  · rw [List.length_append, acCells_append]
    exact owns_only hown (only_p w2 p 14 v2) (fun k hk e => hn2 (by rw [hk, e]))
  · exact ((ha.mono (fun _ _ h => h.elim)).trans hon (fun k _ e => .inr (.inr e))).trans (only_p w2 p 14 v2) (fun k _ e => .inl e)
  · rcases hk with hk | hk | hk
    · exact .inl (.inl hk)
    · exact .inl (.inr (.inl hk))
    · rcases hat with e | e
      · exact .inl (.inr (.inr (by rw [← e]; exact hk)))
      · rw [e] at hk; injection hk with hk; exact .inr (by omega)
/-- r.runs = append(r.runs, ..) -/
theorem Rw.appRuns (h : Rw w lo p r vr o vo) {wa w2 : World} {v2 : Value} {n : Nat} {x : Run} (ha : Only (fun _ => False) w wa) (hown : w2.ownsRow lo 64 2 v2 (r.runs.length + 1) (runCells r.runs ++ runC x))
    (hon : Only (fun i => vr.ownBlock = some i) wa w2) (hat : v2.ownBlock = vr.ownBlock ∨ v2.ownBlock = some n) (hn : w.heap.size ≤ n) :
    Rw (w2.setCell ⟨p, 11, none⟩ v2) lo p { r with runs := r.runs ++ [x] } v2 o vo ∧ Mv (foot p vr vo) (foot p v2 vo) w (w2.setCell ⟨p, 11, none⟩ v2) := by
  have h2 := (h.blk.only ha id).only hon (fun e => h.nr e)
  have hp := h.blk.lt
  have ho2 : w2.ownsRow lo 37 3 vo o.length (acCells o) := owns_only (owns_only h.out ha (fun _ _ => id)) hon (fun k hk e => own_own_ne h.out h.runs (by decide) k hk e)
  have hn2 : v2.ownBlock ≠ some p := by
    rcases hat with e | e
    · rw [e]; exact h.nr
    · rw [e]; simp only [ne_eq, Option.some.injEq]; omega
  refine ⟨⟨h2.set 11 v2, ?_, owns_only ho2 (only_p w2 p 11 v2) (fun k hk e => h.no (by rw [hk, e])), h.low⟩, ?_, fun k hk => ?_⟩
  · show World.ownsRow _ _ _ _ _ (r.runs ++ [x]).length (runCells (r.runs ++ [x]))
    rw [List.length_append, runCells_append, List.length_singleton]
    rw [show runCells [x] = runC x by simp [runCells]]
    exact owns_only hown (only_p w2 p 11 v2) (fun k hk e => hn2 (by rw [hk, e]))
  · exact ((ha.mono (fun _ _ h => h.elim)).trans hon (fun k _ e => .inr (.inl e))).trans (only_p w2 p 11 v2) (fun k _ e => .inl e)
  · rcases hk with hk | hk | hk
    · exact .inl (.inl hk)
    · rcases hat with e | e
      · exact .inl (.inr (.inl (by rw [← e]; exact hk)))
      · rw [e] at hk; injection hk with hk; exact .inr (by omega)
    · exact .inl (.inr (.inr hk))
end

/-- The request by what it holds. -/
def RQ (F : Nat → Prop) (w : World) (lo p : Nat) (r : Rq) (o : List Ac) : Prop := ∃ vr vo, Rw w lo p r vr o vo ∧ F = foot p vr vo
def RP (F : Nat → Prop) (w w' : World) (lo p : Nat) (r : Rq) (o : List Ac) : Prop := ∃ F', RQ F' w' lo p r o ∧ Mv F F' w w'
theorem rq_of {w : World} {lo p : Nat} {r : Rq} {vr vo : Value} {o : List Ac} (h : Rw w lo p r vr o vo) : RQ (foot p vr vo) w lo p r o := ⟨vr, vo, h, rfl⟩
theorem RQ.lt {F : Nat → Prop} {w : World} {lo p : Nat} {r : Rq} {o : List Ac} (h : RQ F w lo p r o) : ∀ k, F k → lo ≤ k ∧ k < w.heap.size := by obtain ⟨vr, vo, h, rfl⟩ := h; exact h.lt
theorem RQ.only {S F : Nat → Prop} {w w' : World} {lo p : Nat} {r : Rq} {o : List Ac} (h : RQ F w lo p r o) (ho : Only S w w') (hd : ∀ k, F k → ¬ S k) : RQ F w' lo p r o := by obtain ⟨vr, vo, h, rfl⟩ := h; exact ⟨vr, vo, h.only ho hd, rfl⟩
theorem RQ.at_p {F : Nat → Prop} {w : World} {lo p : Nat} {r : Rq} {o : List Ac} (h : RQ F w lo p r o) : F p := by obtain ⟨vr, vo, h, rfl⟩ := h; exact .inl rfl
theorem RP.trans {F G : Nat → Prop} {a b c : World} {lo p : Nat} {r : Rq} {o : List Ac} (h : Mv F G a b) (k : RP G b c lo p r o) : RP F a c lo p r o := by obtain ⟨H, h1, h2⟩ := k; exact ⟨H, h1, h.trans h2⟩

theorem Try.info64 : (Try.prog.info? 64).map (fun i => (i.zero, i.size, i.bytes)) = some (some (.agg #[.int .i64 0, .int .i64 0]), 2, 16) := by kernel_rfl
theorem Try.info37 : (Try.prog.info? 37).map (fun i => (i.zero, i.size, i.bytes)) = some (some (.agg #[.int .i64 0, .int .i64 0, .int .i64 0]), 3, 24) := by kernel_rfl
end Go.Proofs.Ytlcblfkmadjppaa
