/- slices.DeleteFunc at runs; end. -/
import Derived.Test.YtlcblfkmadjppaaWalks2
namespace Go.Proofs.Ytlcblfkmadjppaa
open Go.RowKit
set_option linter.unusedVariables false
set_option linter.unusedSimpArgs false

theorem only_setCells (b : Nat) : ∀ (vs : List Value) (o : Nat) (w : World), Only (fun k => k = b) w (w.setCells b o vs)
  | [], _, w => Only.refl _ w
  | v :: r, o, w => (only_p w b o v).trans (only_setCells b r (o + 1) _) (fun _ _ h => h)
theorem blk_setCells {b : Nat} {t : TypeId} : ∀ (vs : List Value) (o : Nat) (w : World) (cs : List Value), Blk w b cs t → ∃ cs', Blk (w.setCells b o vs) b cs' t ∧ cs'.length = cs.length ∧ ∀ i, i < o → cs'[i]? = cs[i]?
  | [], _, w, cs, h => ⟨cs, h, rfl, fun _ _ => rfl⟩
  | v :: r, o, w, cs, h => by
    obtain ⟨cs', h1, h2, h3⟩ := blk_setCells r (o + 1) _ _ (h.set o v)
    refine ⟨cs', h1, by rw [h2, List.length_set], fun i hi => ?_⟩
    rw [h3 i (by omega), List.getElem?_set_ne (by omega)]

theorem zero64 : ∀ w : World, (zeroValue 64).run Try.prog w = .ok (.agg #[.int .i64 0, .int .i64 0]) w := fun w => by kernel_rfl
def clearW (w : World) (g o n : Nat) : World := w.setCells g o (Builtin.zeroCells (Value.agg #[.int .i64 0, .int .i64 0]).cells n).toList
/-- clear(s), s a slice of runs. -/
theorem run_clear_runs {w : World} {g o n c : Nat} {cs : List Value} (h : Blk w g cs 64) (hn : 0 < n) (hl : o + n * 2 ≤ cs.length) :
    (∀ ty, (Builtin.clear_ #[58] ty #[.slice (some ⟨g, o, none⟩) n c]).run Try.prog w = .ok (.tuple #[]) (clearW w g o n)) ∧ Only (fun k => k = g) w (clearW w g o n) ∧ ∃ cs', Blk (clearW w g o n) g cs' 64 ∧ cs'.length = cs.length ∧ ∀ i, i < o → cs'[i]? = cs[i]? := by
  unfold clearW
  obtain ⟨zs, hzs⟩ : ∃ zs, zs = (Builtin.zeroCells (Value.agg #[.int .i64 0, .int .i64 0]).cells n).toList := ⟨_, rfl⟩
  have hlen : zs.length = n * 2 := by rw [hzs]; simp [Builtin.zeroCells, Value.cells]
  have hone : ∀ v ∈ zs, v.oneCell' = true := by
    intro v hv
    rw [hzs] at hv
    simp only [Builtin.zeroCells, Value.cells, Array.toList_map, List.mem_map] at hv
    obtain ⟨i, _, rfl⟩ := hv
    have h2 : i % 2 = 0 ∨ i % 2 = 1 := by omega
    rcases h2 with h2 | h2
    · simp [h2]; rfl
    · simp [h2]; rfl
  have hst := run_storeCells_cells (P := Try.prog) g o zs 0 w (fun j hj => by
      rw [h.cellAt]; simp only [Nat.add_zero]; rw [List.getElem?_eq_getElem (by omega)]; rfl) (fun j hj => h.free _) hone
  simp only [Nat.add_zero] at hst
  rw [← hzs]
  refine ⟨fun ty => ?_, only_setCells g zs o w, blk_setCells zs o w cs h⟩
  obtain ⟨m, rfl⟩ : ∃ m, n = m + 1 := ⟨n - 1, by omega⟩
  simp [Builtin.clear_, run_underlying Try.underlying58, zero64, ← hzs, hst]

theorem keep_take (l : List Run) (id : Int) (j : Nat) (hj : j < l.length) : keep (l.take (j + 1)) id = keep (l.take j) id ++ if ((runAt l j).id : Int) = id then [] else [runAt l j] := by
  unfold keep
  rw [List.take_succ_eq_append_getElem hj, List.filter_append, runAt_eq hj]
  congr 1
  by_cases h : ((l[j]).id : Int) = id
  · rw [if_pos h]; simp [h]
  · rw [if_neg h]; simp [h]
theorem keep_none {l : List Run} {id : Int} (h : ∀ i, i < l.length → ((runAt l i).id : Int) ≠ id) : keep l id = l := by
  unfold keep
  rw [List.filter_eq_self]
  intro x hx
  obtain ⟨i, hi, rfl⟩ := List.getElem_of_mem hx
  have := h i hi
  rw [runAt_eq hi] at this
  simpa using this
theorem keep_pre {l : List Run} {id : Int} {k : Nat} (hk : k ≤ l.length) (h : ∀ i, i < k → ((runAt l i).id : Int) ≠ id) : keep (l.take k) id = l.take k := by
  refine keep_none fun i hi => ?_
  rw [List.length_take] at hi
  have h2 := h i (by omega)
  rw [runAt_eq (by omega)] at h2
  rw [runAt_eq (by rw [List.length_take]; exact hi), List.getElem_take]
  exact h2

/-- Ahead of a round: what is kept of the first j stands in front; behind j all is as it was. -/
structure DelI (w wr : World) (g cap : Nat) (l : List Run) (id : Int) (a j : Nat) : Prop where
  row : ∃ X C, Blk wr g (runCells (keep (l.take j) id) ++ (X ++ (runCells (l.drop j) ++ C))) 64 ∧ X.length = (j - a) * 2 ∧ (runCells (keep (l.take j) id) ++ (X ++ (runCells (l.drop j) ++ C))).length = cap * 2
  at_ : a = (keep (l.take j) id).length
  lt : a < j ∧ j ≤ l.length
  only : Only (fun k => k = g) w wr
theorem drop_runCells {l : List Run} {j : Nat} (hj : j < l.length) : runCells (l.drop j) = runC (runAt l j) ++ runCells (l.drop (j + 1)) := by
  rw [List.drop_eq_getElem_cons hj, runAt_eq hj]
  rfl
theorem DelI.start {w w1 : World} {g cap : Nat} {l : List Run} {id : Int} {C : List Value} {k : Nat} (hb : Blk w g (runCells l ++ C) 64) (hl : (runCells l ++ C).length = cap * 2) (ho : Only (fun _ => False) w w1) (hk : k < l.length) (h1 : ((runAt l k).id : Int) = id) (h0 : ∀ j, j < k → ((runAt l j).id : Int) ≠ id) :
    DelI w w1 g cap l id k (k + 1) := by
  have e1 : keep (l.take (k + 1)) id = l.take k := by rw [keep_take l id k hk, if_pos h1, List.append_nil, keep_pre (by omega) h0]
  have e2 : runCells l ++ C = runCells (l.take k) ++ (runC (runAt l k) ++ (runCells (l.drop (k + 1)) ++ C)) := by
    rw [← List.append_assoc (runC _), ← drop_runCells hk, ← List.append_assoc, ← runCells_append, List.take_append_drop]
  refine ⟨⟨runC (runAt l k), C, ?_, by rw [runC_len]; omega, ?_⟩, ?_, ⟨by omega, by omega⟩, ho.mono (fun _ _ h => h.elim)⟩
  · rw [e1, ← e2]; exact hb.only ho (fun h => h)
  · rw [e1, ← e2]; exact hl
  · rw [e1, List.length_take]; omega
theorem DelI.next {w wr : World} {g cap : Nat} {l : List Run} {id : Int} {a j : Nat} (h : DelI w wr g cap l id a j) (hj : j < l.length) : ∃ X C, Blk wr g (runCells (keep (l.take j) id) ++ (X ++ (runC (runAt l j) ++ (runCells (l.drop (j + 1)) ++ C)))) 64 ∧ X.length = (j - a) * 2 ∧
    (runCells (keep (l.take j) id) ++ (X ++ (runC (runAt l j) ++ (runCells (l.drop (j + 1)) ++ C)))).length = cap * 2 := by
  obtain ⟨X, C, h1, h2, h3⟩ := h.row
  rw [drop_runCells hj, List.append_assoc] at h1 h3
  exact ⟨X, C, h1, h2, h3⟩
theorem DelI.cells {w wr : World} {g cap : Nat} {l : List Run} {id : Int} {a j : Nat} (h : DelI w wr g cap l id a j) (hj : j < l.length) :
    wr.cell? ⟨g, j * 2, none⟩ = some (.int .i64 (runAt l j).id) ∧ wr.cell? ⟨g, j * 2 + 1, none⟩ = some (.int .i64 (runAt l j).since) := by
  obtain ⟨X, C, h1, h2, _⟩ := h.next hj
  have hk := runCells_len (keep (l.take j) id)
  have ha := h.at_
  have hlt := h.lt.1
  constructor
  · rw [h1.cellAt, List.getElem?_append_right (by omega), List.getElem?_append_right (by omega), show j * 2 - (runCells (keep (l.take j) id)).length - X.length = 0 by omega]
    rfl
  · rw [h1.cellAt, List.getElem?_append_right (by omega), List.getElem?_append_right (by omega), show j * 2 + 1 - (runCells (keep (l.take j) id)).length - X.length = 1 by omega]
    rfl
/-- One that is not kept. -/
theorem DelI.skip {w wr w2 : World} {g cap : Nat} {l : List Run} {id : Int} {a j : Nat} (h : DelI w wr g cap l id a j) (hj : j < l.length) (h1 : ((runAt l j).id : Int) = id) (ho : Only (fun _ => False) wr w2) : DelI w w2 g cap l id a (j + 1) := by
  obtain ⟨X, C, hb, hx, hl⟩ := h.next hj
  have e1 : keep (l.take (j + 1)) id = keep (l.take j) id := by rw [keep_take l id j hj, if_pos h1, List.append_nil]
  have ha := h.lt
  refine ⟨⟨X ++ runC (runAt l j), C, ?_, by rw [List.length_append, runC_len]; omega, ?_⟩, by rw [e1]; exact h.at_, ⟨by omega, by omega⟩, h.only.trans ho (fun _ _ h => h.elim)⟩
  · rw [e1, List.append_assoc X]; exact hb.only ho (fun h => h)
  · rw [e1, List.append_assoc X]; exact hl
/-- One that is kept. -/
theorem DelI.put {w wr w2 : World} {g cap : Nat} {l : List Run} {id : Int} {a j : Nat} (h : DelI w wr g cap l id a j) (hj : j < l.length) (h1 : ((runAt l j).id : Int) ≠ id) (ho : Only (fun _ => False) wr w2) :
    DelI w ((w2.setCell ⟨g, a * 2, none⟩ (.int .i64 (runAt l j).id)).setCell ⟨g, a * 2 + 1, none⟩ (.int .i64 (runAt l j).since)) g cap l id (a + 1) (j + 1) := by
  obtain ⟨X, C, hb, hx, hl⟩ := h.next hj
  have e1 : keep (l.take (j + 1)) id = keep (l.take j) id ++ [runAt l j] := by rw [keep_take l id j hj, if_neg h1]
  have ha := h.lt
  have hk := runCells_len (keep (l.take j) id)
  have haa := h.at_
  match X, hx with
  | [], hx => simp at hx; omega
  | [x0], hx => simp at hx; omega
  | x0 :: x1 :: Y, hx =>
    simp only [List.length_cons] at hx
    have hb2 := ((hb.only ho (fun h => h)).set (a * 2) (.int .i64 (runAt l j).id)).set (a * 2 + 1) (.int .i64 (runAt l j).since)
    have es : ((runCells (keep (l.take j) id) ++ (x0 :: x1 :: Y ++ (runC (runAt l j) ++ (runCells (l.drop (j + 1)) ++ C)))).set (a * 2) (.int .i64 (runAt l j).id)).set (a * 2 + 1) (.int .i64 (runAt l j).since) =
        runCells (keep (l.take (j + 1)) id) ++ ((Y ++ runC (runAt l j)) ++ (runCells (l.drop (j + 1)) ++ C)) := by
      rw [e1, runCells_append, List.set_append_right _ _ (by omega), List.set_append_right _ _ (by omega), show a * 2 - (runCells (keep (l.take j) id)).length = 0 by omega, show a * 2 + 1 - (runCells (keep (l.take j) id)).length = 1 by omega]
      simp [runCells, runC]
    rw [es] at hb2
    refine ⟨⟨Y ++ runC (runAt l j), C, hb2, by rw [List.length_append, runC_len]; omega, ?_⟩, by rw [e1, List.length_append, List.length_singleton]; omega, ⟨by omega, by omega⟩, ?_⟩
    · rw [← es, List.length_set, List.length_set]; exact hl
    · exact ((h.only.trans ho (fun _ _ h => h.elim)).trans (only_p _ _ _ _) (fun _ _ h => h)).trans (only_p _ _ _ _) (fun _ _ h => h)
/-- At the end the rest is cleared. -/
theorem DelI.done {w wr w2 : World} {lo g cap a : Nat} {l : List Run} {id : Int} (h : DelI w wr g cap l id a l.length) (hlo : lo ≤ g) (hcap : cap ≤ maxLen) {cs' : List Value} (hb : Blk w2 g cs' 64)
    (hall : ∀ cs, Blk wr g cs 64 → cs'.length = cs.length ∧ ∀ i, i < a * 2 → cs'[i]? = cs[i]?) (ho : Only (fun k => k = g) wr w2) :
    w2.ownsRow lo 64 2 (.slice (some ⟨g, 0, none⟩) a cap) (keep l id).length (runCells (keep l id)) ∧ Only (fun k => k = g) w w2 := by
  obtain ⟨X, C, h1, h2, h3⟩ := h.row
  have ha := h.at_
  rw [List.take_of_length_le (Nat.le_refl _)] at h1 h3 ha
  obtain ⟨l1, l2⟩ := hall _ h1
  have hk := runCells_len (keep l id)
  refine ⟨?_, h.only.trans ho (fun _ _ h => h)⟩
  have e : cs' = runCells (keep l id) ++ cs'.drop (a * 2) := by
    rw [← List.take_append_drop (a * 2) cs']
    congr 1
    · refine List.ext_getElem? fun i => ?_
      rw [List.getElem?_take]
      by_cases hi : i < a * 2
      · rw [if_pos hi, l2 i hi, List.getElem?_append_left (by omega)]
      · rw [if_neg hi, List.getElem?_eq_none (by omega)]
    · rw [List.take_append_drop]
  have hle : a ≤ cap := by rw [List.length_append] at h3; omega
  rw [e] at hb
  rw [← ha]
  refine ownsRow_of_blk (by rw [ha]; exact hk) hlo hb hle hcap ?_
  rw [← e, l1, h3]
end Go.Proofs.Ytlcblfkmadjppaa
