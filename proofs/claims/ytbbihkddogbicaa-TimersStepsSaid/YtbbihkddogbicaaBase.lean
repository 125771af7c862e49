/- Timers as the walks see them: a row of structs that the call owns, a row of numbers, a row of bools. -/
import Derived.Test.YtbbihkddogbicaaProg
import Derived.Test.YtbbihkddogbicaaLib2
import Derived.Test.YtbbihkddogbicaaSpec
import Derived.RegionTactic
import Derived.BigRegion
import Derived.BigQuiet
import Derived.Deep.QuietTactic
import Derived.StillTailTactics
import Derived.Deep.RegionWith
import Derived.Deep.RegionLaw
import Derived.Deep.RegionHeld3
import Derived.LoopTactic
import Derived.KernelRfl
namespace Go.Proofs.Ytbbihkddogbicaa
open Go.RowKit
set_option linter.unusedVariables false

/-- A row that the call owns, its block known whole. -/
theorem ownsRow_blk {w : World} {lo e size n : Nat} {v : Value} {xs : List Value} (h : w.ownsRow lo e size v n xs) (hn : 0 < n) :
    ∃ g cap C, v = .slice (some ⟨g, 0, none⟩) n cap ∧ lo ≤ g ∧ Blk w g (xs ++ C) e ∧ n ≤ cap ∧ cap ≤ maxLen ∧ (xs ++ C).length = cap * size := by
  rcases h.2 with ⟨rfl, rfl⟩ | ⟨g, cap, cur, rfl, hb, hg, h1, h2, h3, h4⟩
  · have := h.1; simp at this
    exact ⟨0, 0, [], by omega⟩
  · refine ⟨g, cap, cur.toList.drop (n * size), rfl, hb, ?_, h1, h2, ?_⟩
    · show _ = _
      rw [hg, ← h4, List.take_append_drop]
    · rw [← h4, List.take_append_drop]
      simpa using h3
theorem ownsRow_of_blk {w : World} {lo e size n g cap : Nat} {xs C : List Value} (hx : xs.length = n * size) (hg : lo ≤ g) (hb : Blk w g (xs ++ C) e) (h1 : n ≤ cap) (h2 : cap ≤ maxLen) (h3 : (xs ++ C).length = cap * size) :
    w.ownsRow lo e size (.slice (some ⟨g, 0, none⟩) n cap) n xs :=
  ⟨hx, .inr ⟨g, cap, (xs ++ C).toArray, rfl, hg, hb, h1, h2, by simpa using h3, by rw [← hx]; simp⟩⟩

def tmC (t : Tm) : List Value := [.int .i64 t.at_, .int .i64 t.nth, .int .i64 t.key, .int .i64 t.slot]
def tmCells (h : List Tm) : List Value := h.flatMap tmC
@[simp] theorem length_tmCells (h : List Tm) : (tmCells h).length = h.length * 4 := by
  unfold tmCells
  induction h with
  | nil => rfl
  | cons t r ih => rw [List.flatMap_cons, List.length_append, ih, List.length_cons]; simp [tmC]; omega
theorem tmCells_append (a b : List Tm) : tmCells (a ++ b) = tmCells a ++ tmCells b := by simp [tmCells]
theorem tmCells_cons (t : Tm) (r : List Tm) : tmCells (t :: r) = tmC t ++ tmCells r := rfl
theorem tmCells_get {h : List Tm} {i k : Nat} (hi : i < h.length) (hk : k < 4) : (tmCells h)[i * 4 + k]? = (tmC (nth_ h i))[k]? := by
  induction h generalizing i with
  | nil => simp at hi
  | cons t r ih =>
    rw [tmCells_cons]
    cases i with
    | zero => rw [List.getElem?_append_left (by simp [tmC]; omega)]; simp [nth_]
    | succ i =>
      rw [List.getElem?_append_right (by simp [tmC]; omega)]
      have : (i + 1) * 4 + k - (tmC t).length = i * 4 + k := by simp [tmC]; omega
      rw [this, ih (by simpa using hi)]
      simp [nth_]

/-- A timer's heap behind the field 1 of block p: its row lies in block g. -/
structure Hp (w : World) (p g cap : Nat) (h : List Tm) (C : List Value) : Prop where
  fld : w.cell? ⟨p, 1, none⟩ = some (.slice (some ⟨g, 0, none⟩) h.length cap)
  row : Blk w g (tmCells h ++ C) 57
  le : h.length ≤ cap
  max : h.length ≤ 4096
  ne : p ≠ g
  lt : p < w.heap.size

theorem Hp.cells {w : World} {p g cap : Nat} {h : List Tm} {C : List Value} (H : Hp w p g cap h C) {i : Nat} (hi : i < h.length) :
    w.cell? ⟨g, i * 4, none⟩ = some (.int .i64 (nth_ h i).at_) ∧ w.cell? ⟨g, i * 4 + 1, none⟩ = some (.int .i64 (nth_ h i).nth) ∧
    w.cell? ⟨g, i * 4 + 2, none⟩ = some (.int .i64 (nth_ h i).key) ∧ w.cell? ⟨g, i * 4 + 3, none⟩ = some (.int .i64 (nth_ h i).slot) := by
  have hl := length_tmCells h
  have at' : ∀ k, k < 4 → w.cell? ⟨g, i * 4 + k, none⟩ = (tmC (nth_ h i))[k]? := fun k hk => by
    rw [H.row.cellAt, List.getElem?_append_left (by omega), tmCells_get hi hk]
  exact ⟨at' 0 (by omega), at' 1 (by omega), at' 2 (by omega), at' 3 (by omega)⟩
theorem Hp.only {S : Nat → Prop} {w w' : World} {p g cap : Nat} {h : List Tm} {C : List Value} (H : Hp w p g cap h C) (ho : Only S w w') (hp : ¬ S p) (hg : ¬ S g) : Hp w' p g cap h C :=
  ⟨(World.cell?_of_block (ho.block p H.lt hp)).trans H.fld, H.row.only ho hg, H.le, H.max, H.ne, Nat.lt_of_lt_of_le H.lt ho.size⟩

/-- A timer laid at a row's place. -/
def put4 (w : World) (g o : Nat) (t : Tm) : World :=
  (((w.setCell ⟨g, o, none⟩ (.int .i64 t.at_)).setCell ⟨g, o + 1, none⟩ (.int .i64 t.nth)).setCell ⟨g, o + 2, none⟩ (.int .i64 t.key)).setCell ⟨g, o + 3, none⟩ (.int .i64 t.slot)
def set4 (l : List Value) (o : Nat) (t : Tm) : List Value := (((l.set o (.int .i64 t.at_)).set (o + 1) (.int .i64 t.nth)).set (o + 2) (.int .i64 t.key)).set (o + 3) (.int .i64 t.slot)
theorem set4_append (a b : List Value) (o : Nat) (t : Tm) (h : o + 4 ≤ a.length) : set4 (a ++ b) o t = set4 a o t ++ b := by
  unfold set4
  rw [List.set_append_left _ _ (by omega), List.set_append_left _ _ (by simp; omega), List.set_append_left _ _ (by simp; omega), List.set_append_left _ _ (by simp; omega)]
theorem set4_cells (h : List Tm) (i : Nat) (t : Tm) (hi : i < h.length) : set4 (tmCells h) (i * 4) t = tmCells (h.set i t) := by
  induction h generalizing i with
  | nil => simp at hi
  | cons x r ih =>
    cases i with
    | zero =>
      rw [tmCells_cons, set4_append _ _ _ _ (by simp [tmC])]
      rfl
    | succ i =>
      have e := ih i (by simpa using hi)
      rw [tmCells_cons, List.set_cons_succ, tmCells_cons, ← e]
      unfold set4
      have hl : (tmC x).length = 4 := rfl
      rw [List.set_append_right _ _ (by omega), List.set_append_right _ _ (by omega), List.set_append_right _ _ (by omega), List.set_append_right _ _ (by omega)]
      rw [show (i + 1) * 4 - (tmC x).length = i * 4 by omega, show (i + 1) * 4 + 1 - (tmC x).length = i * 4 + 1 by omega, show (i + 1) * 4 + 2 - (tmC x).length = i * 4 + 2 by omega, show (i + 1) * 4 + 3 - (tmC x).length = i * 4 + 3 by omega]
theorem Blk.set4 {w : World} {g t : Nat} {cs : List Value} (h : Blk w g cs t) (o : Nat) (x : Tm) : Blk (put4 w g o x) g (set4 cs o x) t :=
  (((h.set o _).set (o + 1) _).set (o + 2) _).set (o + 3) _
theorem Only.put4 {S : Nat → Prop} {a b : World} (h : Only S a b) {g : Nat} (hg : g < a.heap.size → S g) (o : Nat) (x : Tm) : Only S a (put4 b g o x) :=
  (((h.setCell (p := ⟨g, o, none⟩) hg _).setCell (p := ⟨g, o + 1, none⟩) hg _).setCell (p := ⟨g, o + 2, none⟩) hg _).setCell (p := ⟨g, o + 3, none⟩) hg _
theorem Hp.put {w : World} {p g cap : Nat} {h : List Tm} {C : List Value} (H : Hp w p g cap h C) {i : Nat} (hi : i < h.length) (x : Tm) : Hp (put4 w g (i * 4) x) p g cap (h.set i x) C := by
  have ho : Only (fun k => k = g) w (put4 w g (i * 4) x) := (Only.refl (fun k => k = g) w).put4 (fun _ => rfl) _ _
  have e : (put4 w g (i * 4) x).cell? ⟨p, 1, none⟩ = w.cell? ⟨p, 1, none⟩ := World.cell?_of_block (a := ⟨p, 1, none⟩) (ho.block p H.lt H.ne)
  refine ⟨?_, ?_, by rw [List.length_set]; exact H.le, by rw [List.length_set]; exact H.max, H.ne, Nat.lt_of_lt_of_le H.lt ho.size⟩
  · rw [List.length_set, e]; exact H.fld
  · rw [← set4_cells h i x hi, ← set4_append _ _ _ _ (by rw [length_tmCells]; omega)]
    exact H.row.set4 _ _
/-- Two timers change places. -/
theorem Hp.swap_ {w : World} {p g cap : Nat} {h : List Tm} {C : List Value} (H : Hp w p g cap h C) {i j : Nat} (hi : i < h.length) (hj : j < h.length) {x y : Tm} (hx : x = nth_ h i) (hy : y = nth_ h j) :
    Hp (put4 (put4 w g (i * 4) y) g (j * 4) x) p g cap (swap h i j) C := by
  subst hx hy
  exact (H.put hi _).put (by rw [List.length_set]; exact hj) _
theorem Hp.drew {w : World} {p g cap : Nat} {h : List Tm} {C : List Value} (H : Hp w p g cap h C) : Hp w.drew p g cap h C := H.only ((Only.refl (fun _ => False) w).drew) id id
end Go.Proofs.Ytbbihkddogbicaa
