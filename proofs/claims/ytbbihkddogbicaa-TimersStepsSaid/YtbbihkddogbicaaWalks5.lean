/- What each statement does to the timers; timers.slot. -/
import Derived.Test.YtbbihkddogbicaaWalks4
namespace Go.Proofs.Ytbbihkddogbicaa
open Go.RowKit
set_option linter.unusedVariables false
set_option linter.unusedSimpArgs false

theorem own_own_ne {w : World} {lo lo' e e' size size' n n' : Nat} {v v' : Value} {xs xs' : List Value} (h : w.ownsRow lo e size v n xs) (h' : w.ownsRow lo' e' size' v' n' xs') (hne : e ≠ e') (k : Nat) (hk : v.ownBlock = some k) : v'.ownBlock ≠ some k := by
  intro hk'
  rcases h.2 with ⟨rfl, _⟩ | ⟨g, cap, cur, rfl, _, hg, _⟩
  · cases hk
  · rcases h'.2 with ⟨rfl, _⟩ | ⟨g', cap', cur', rfl, _, hg', _⟩
    · cases hk'
    · simp only [Value.ownBlock, Option.some.injEq] at hk hk'
      subst hk hk'
      rw [hg] at hg'
      simp only [Option.some.injEq, Obj.cells.injEq] at hg'
      exact hne hg'.2.1
theorem owns_set {w : World} {lo e n g i : Nat} {v u : Value} {xs : List Value} (h : w.ownsRow lo e 1 v n xs) (hg : v.ownBlock = some g) (hi : i < n) : (w.setCell ⟨g, i, none⟩ u).ownsRow lo e 1 v n (xs.set i u) := by
  obtain ⟨g', cap, C, rfl, h1, h2, h3, h4, h5⟩ := ownsRow_blk h (by omega)
  have : g' = g := by simpa [Value.ownBlock] using hg
  subst this
  have hx := h.1
  refine ownsRow_of_blk (C := C) (by rw [List.length_set]; exact hx) h1 ?_ h3 h4 (by simpa using h5)
  rw [← List.set_append_left _ _ (by omega)]
  exact h2.set i u
theorem owns_cellD {w : World} {lo e n g i : Nat} {v : Value} {xs : List Value} (h : w.ownsRow lo e 1 v n xs) (hg : v.ownBlock = some g) (hi : i < n) (u : Value) (hu : xs[i]? = some u) : w.cell? ⟨g, i, none⟩ = some u := by
  rw [ownsRow_cell h hg i hi, hu]
theorem owns_free {w : World} {lo e size n g : Nat} {v : Value} {xs : List Value} (h : w.ownsRow lo e size v n xs) (hg : v.ownBlock = some g) (o : Nat) : w.frozen? ⟨g, o, none⟩ = false := by
  rcases h.2 with ⟨rfl, _⟩ | ⟨g', cap, cur, rfl, _, hh, _⟩
  · cases hg
  · have : g' = g := by simpa [Value.ownBlock] using hg
    subst this
    simp [World.frozen?, hh]

section
variable {F : Nat → Prop} {w : World} {lo p most : Nat} {hp : List Tm} {vh : Value} {used : List Nat} {vu : Value} {taken : List Bool} {vt : Value} {set : Nat}

/-- Where a world grows the timers may come to lie in its new blocks, too. -/
def More (F : Nat → Prop) (w w' : World) : Nat → Prop := fun k => F k ∨ (w.heap.size ≤ k ∧ k < w'.heap.size)

theorem Tw.nh (h : Tw F w lo p most hp vh used vu taken vt set) : vh.ownBlock ≠ some p := ownsRow_ne h.heap h.blk (by decide)
theorem Tw.nu (h : Tw F w lo p most hp vh used vu taken vt set) : vu.ownBlock ≠ some p := ownsRow_ne h.used_ h.blk (by decide)
theorem Tw.nt (h : Tw F w lo p most hp vh used vu taken vt set) : vt.ownBlock ≠ some p := ownsRow_ne h.taken_ h.blk (by decide)

/-- t.taken = append(t.taken, false) -/
theorem Tw.app_taken (h : Tw F w lo p most hp vh used vu taken vt set) {o : Obj} {w2 : World} {v2 : Value} (hown : w2.ownsRow lo 4 1 v2 (taken.length + 1) (taken.map Value.bool ++ [.bool false])) (hon : Only (fun i => vt.ownBlock = some i) (w.alloc o) w2)
    (hat : v2.ownBlock = vt.ownBlock ∨ v2.ownBlock = some (w.heap.size + 1)) :
    Tw (More F w w2) (w2.setCell ⟨p, 3, none⟩ v2) lo p most hp vh used vu (taken ++ [false]) v2 set ∧ Only F w (w2.setCell ⟨p, 3, none⟩ v2) := by
  have hp_ := h.blk.lt
  have ha : Only (fun i => vt.ownBlock = some i) w w2 := ((Only.refl _ w).alloc o).trans hon (fun _ _ h => h)
  have hs := hon.size
  simp only [World.size_alloc] at hs
  have hst : Only (fun k => k = p) w2 (w2.setCell ⟨p, 3, none⟩ v2) := (Only.refl (fun k => k = p) w2).setCell (p := ⟨p, 3, none⟩) (fun _ => rfl) _
  have hn2 : v2.ownBlock ≠ some p := by
    rcases hat with e | e
    · rw [e]; exact h.nt
    · rw [e]; simp only [ne_eq, Option.some.injEq]; omega
  have hl2 := ownsRow_lt hown
  refine ⟨⟨(h.blk.only ha (fun e => h.nt e)).set 3 v2, ?_, ?_, ?_, fun k hk => ?_, fun k hk => ?_⟩, ?_⟩
  · exact owns_only (owns_only h.heap ha (fun k hk e => own_own_ne h.heap h.taken_ (by decide) k hk e)) hst (fun k hk e => h.nh (by rw [hk, e]))
  · exact owns_only (owns_only h.used_ ha (fun k hk e => own_own_ne h.used_ h.taken_ (by decide) k hk e)) hst (fun k hk e => h.nu (by rw [hk, e]))
  · rw [List.length_append, List.length_singleton, List.map_append]
    exact owns_only hown hst (fun k hk e => hn2 (by rw [hk, e]))
  · rcases hk with hk | hk | hk | hk
    · exact .inl (h.foot k (.inl hk))
    · exact .inl (h.foot k (.inr (.inl hk)))
    · exact .inl (h.foot k (.inr (.inr (.inl hk))))
    · rcases hat with e | e
      · exact .inl (h.foot k (.inr (.inr (.inr (by rw [← e]; exact hk)))))
      · have := (hl2 k hk).2
        rw [e] at hk
        injection hk with hk
        exact .inr (by omega)
  · have hz := hst.size
    rcases hk with hk | hk
    · have := h.lt k hk; omega
    · have := (h.lt p (h.foot p (.inl rfl))).1; omega
  · exact (ha.mono (fun i _ e => h.foot i (.inr (.inr (.inr e))))).setCell (p := ⟨p, 3, none⟩) (fun _ => h.foot p (.inl rfl)) _
/-- t.used = append(t.used, 0) -/
theorem Tw.app_used (h : Tw F w lo p most hp vh used vu taken vt set) {o : Obj} {w2 : World} {v2 : Value} (hown : w2.ownsRow lo 3 1 v2 (used.length + 1) ((used.map fun n => Value.int .i64 (n : Nat)) ++ [.int .i64 0])) (hon : Only (fun i => vu.ownBlock = some i) (w.alloc o) w2)
    (hat : v2.ownBlock = vu.ownBlock ∨ v2.ownBlock = some (w.heap.size + 1)) :
    Tw (More F w w2) (w2.setCell ⟨p, 2, none⟩ v2) lo p most hp vh (used ++ [0]) v2 taken vt set ∧ Only F w (w2.setCell ⟨p, 2, none⟩ v2) := by
  have hp_ := h.blk.lt
  have ha : Only (fun i => vu.ownBlock = some i) w w2 := ((Only.refl _ w).alloc o).trans hon (fun _ _ h => h)
  have hs := hon.size
  simp only [World.size_alloc] at hs
  have hst : Only (fun k => k = p) w2 (w2.setCell ⟨p, 2, none⟩ v2) := (Only.refl (fun k => k = p) w2).setCell (p := ⟨p, 2, none⟩) (fun _ => rfl) _
  have hn2 : v2.ownBlock ≠ some p := by
    rcases hat with e | e
    · rw [e]; exact h.nu
    · rw [e]; simp only [ne_eq, Option.some.injEq]; omega
  have hl2 := ownsRow_lt hown
  refine ⟨⟨(h.blk.only ha (fun e => h.nu e)).set 2 v2, ?_, ?_, ?_, fun k hk => ?_, fun k hk => ?_⟩, ?_⟩
  · exact owns_only (owns_only h.heap ha (fun k hk e => own_own_ne h.heap h.used_ (by decide) k hk e)) hst (fun k hk e => h.nh (by rw [hk, e]))
  · rw [List.length_append, List.length_singleton, List.map_append]
    exact owns_only hown hst (fun k hk e => hn2 (by rw [hk, e]))
  · exact owns_only (owns_only h.taken_ ha (fun k hk e => own_own_ne h.taken_ h.used_ (by decide) k hk e)) hst (fun k hk e => h.nt (by rw [hk, e]))
  · rcases hk with hk | hk | hk | hk
    · exact .inl (h.foot k (.inl hk))
    · exact .inl (h.foot k (.inr (.inl hk)))
    · rcases hat with e | e
      · exact .inl (h.foot k (.inr (.inr (.inl (by rw [← e]; exact hk)))))
      · have := (hl2 k hk).2
        rw [e] at hk
        injection hk with hk
        exact .inr (by omega)
    · exact .inl (h.foot k (.inr (.inr (.inr hk))))
  · have hz := hst.size
    rcases hk with hk | hk
    · have := h.lt k hk; omega
    · have := (h.lt p (h.foot p (.inl rfl))).1; omega
  · exact (ha.mono (fun i _ e => h.foot i (.inr (.inr (.inl e))))).setCell (p := ⟨p, 2, none⟩) (fun _ => h.foot p (.inl rfl)) _
/-- t.heap = append(t.heap, x) -/
theorem Tw.app_heap (h : Tw F w lo p most hp vh used vu taken vt set) {o : Obj} {w2 : World} {v2 : Value} {x : Tm} (hown : w2.ownsRow lo 57 4 v2 (hp.length + 1) (tmCells hp ++ tmC x)) (hon : Only (fun i => vh.ownBlock = some i) (w.alloc o) w2)
    (hat : v2.ownBlock = vh.ownBlock ∨ v2.ownBlock = some (w.heap.size + 1)) :
    Tw (More F w w2) (w2.setCell ⟨p, 1, none⟩ v2) lo p most (hp ++ [x]) v2 used vu taken vt set ∧ Only F w (w2.setCell ⟨p, 1, none⟩ v2) := by
  have hp_ := h.blk.lt
  have ha : Only (fun i => vh.ownBlock = some i) w w2 := ((Only.refl _ w).alloc o).trans hon (fun _ _ h => h)
  have hs := hon.size
  simp only [World.size_alloc] at hs
  have hst : Only (fun k => k = p) w2 (w2.setCell ⟨p, 1, none⟩ v2) := (Only.refl (fun k => k = p) w2).setCell (p := ⟨p, 1, none⟩) (fun _ => rfl) _
  have hn2 : v2.ownBlock ≠ some p := by
    rcases hat with e | e
    · rw [e]; exact h.nh
    · rw [e]; simp only [ne_eq, Option.some.injEq]; omega
  have hl2 := ownsRow_lt hown
  refine ⟨⟨(h.blk.only ha (fun e => h.nh e)).set 1 v2, ?_, ?_, ?_, fun k hk => ?_, fun k hk => ?_⟩, ?_⟩
  · rw [List.length_append, List.length_singleton, tmCells_append, tmCells_cons, show tmCells [] = [] from rfl, List.append_nil]
    exact owns_only hown hst (fun k hk e => hn2 (by rw [hk, e]))
  · exact owns_only (owns_only h.used_ ha (fun k hk e => own_own_ne h.used_ h.heap (by decide) k hk e)) hst (fun k hk e => h.nu (by rw [hk, e]))
  · exact owns_only (owns_only h.taken_ ha (fun k hk e => own_own_ne h.taken_ h.heap (by decide) k hk e)) hst (fun k hk e => h.nt (by rw [hk, e]))
  · rcases hk with hk | hk | hk | hk
    · exact .inl (h.foot k (.inl hk))
    · rcases hat with e | e
      · exact .inl (h.foot k (.inr (.inl (by rw [← e]; exact hk))))
      · have := (hl2 k hk).2
        rw [e] at hk
        injection hk with hk
        exact .inr (by omega)
    · exact .inl (h.foot k (.inr (.inr (.inl hk))))
    · exact .inl (h.foot k (.inr (.inr (.inr hk))))
  · have hz := hst.size
    rcases hk with hk | hk
    · have := h.lt k hk; omega
    · have := (h.lt p (h.foot p (.inl rfl))).1; omega
  · exact (ha.mono (fun i _ e => h.foot i (.inr (.inl e)))).setCell (p := ⟨p, 1, none⟩) (fun _ => h.foot p (.inl rfl)) _

/-- t.taken[i] = b -/
theorem Tw.st_taken (h : Tw F w lo p most hp vh used vu taken vt set) {g i : Nat} (hg : vt.ownBlock = some g) (hi : i < taken.length) (b : Bool) : Tw F (w.setCell ⟨g, i, none⟩ (.bool b)) lo p most hp vh used vu (taken.set i b) vt set := by
  have ho : Only (fun k => k = g) w (w.setCell ⟨g, i, none⟩ (.bool b)) := (Only.refl (fun k => k = g) w).setCell (p := ⟨g, i, none⟩) (fun _ => rfl) _
  refine ⟨h.blk.only ho (fun e => h.nt (by rw [hg, e])), owns_only h.heap ho (fun k hk e => own_own_ne h.heap h.taken_ (by decide) k hk (by rw [hg, e])), owns_only h.used_ ho (fun k hk e => own_own_ne h.used_ h.taken_ (by decide) k hk (by rw [hg, e])),
    ?_, h.foot, fun k hk => ⟨(h.lt k hk).1, Nat.lt_of_lt_of_le (h.lt k hk).2 ho.size⟩⟩
  rw [List.length_set, List.map_set]
  exact owns_set h.taken_ hg hi
/-- t.used[i] = n -/
theorem Tw.st_used (h : Tw F w lo p most hp vh used vu taken vt set) {g i : Nat} (hg : vu.ownBlock = some g) (hi : i < used.length) (n : Nat) : Tw F (w.setCell ⟨g, i, none⟩ (.int .i64 n)) lo p most hp vh (used.set i n) vu taken vt set := by
  have ho : Only (fun k => k = g) w (w.setCell ⟨g, i, none⟩ (.int .i64 n)) := (Only.refl (fun k => k = g) w).setCell (p := ⟨g, i, none⟩) (fun _ => rfl) _
  refine ⟨h.blk.only ho (fun e => h.nu (by rw [hg, e])), owns_only h.heap ho (fun k hk e => own_own_ne h.heap h.used_ (by decide) k hk (by rw [hg, e])), ?_, owns_only h.taken_ ho (fun k hk e => own_own_ne h.taken_ h.used_ (by decide) k hk (by rw [hg, e])),
    h.foot, fun k hk => ⟨(h.lt k hk).1, Nat.lt_of_lt_of_le (h.lt k hk).2 ho.size⟩⟩
  rw [List.length_set, List.map_set]
  exact owns_set h.used_ hg hi
/-- t.set = n -/
theorem Tw.st_set (h : Tw F w lo p most hp vh used vu taken vt set) (n : Nat) : Tw F (w.setCell ⟨p, 4, none⟩ (.int .i64 n)) lo p most hp vh used vu taken vt n := by
  have ho : Only (fun k => k = p) w (w.setCell ⟨p, 4, none⟩ (.int .i64 n)) := (Only.refl (fun k => k = p) w).setCell (p := ⟨p, 4, none⟩) (fun _ => rfl) _
  exact ⟨h.blk.set 4 _, owns_only h.heap ho (fun k hk e => h.nh (by rw [hk, e])), owns_only h.used_ ho (fun k hk e => h.nu (by rw [hk, e])), owns_only h.taken_ ho (fun k hk e => h.nt (by rw [hk, e])),
    h.foot, fun k hk => ⟨(h.lt k hk).1, Nat.lt_of_lt_of_le (h.lt k hk).2 ho.size⟩⟩
/-- The heap's row holds another heap of the same length. -/
theorem Tw.turn_heap (h : Tw F w lo p most hp vh used vu taken vt set) {g cap : Nat} {C : List Value} {hp' : List Tm} {w' : World} (hv : vh = .slice (some ⟨g, 0, none⟩) hp.length cap) (hH : Hp w' p g cap hp' C) (ho : Only (fun k => k = g) w w') (hl : hp'.length = hp.length)
    (hlo : lo ≤ g) (hcm : cap ≤ maxLen) (hC : (tmCells hp ++ C).length = cap * 4) : Tw F w' lo p most hp' vh used vu taken vt set := by
  have hg : vh.ownBlock = some g := by rw [hv]; rfl
  refine ⟨h.blk.only ho (fun e => h.nh (by rw [hg, e])), ?_, owns_only h.used_ ho (fun k hk e => own_own_ne h.used_ h.heap (by decide) k hk (by rw [hg, e])), owns_only h.taken_ ho (fun k hk e => own_own_ne h.taken_ h.heap (by decide) k hk (by rw [hg, e])),
    h.foot, fun k hk => ⟨(h.lt k hk).1, Nat.lt_of_lt_of_le (h.lt k hk).2 ho.size⟩⟩
  rw [hv, ← hl]
  exact ownsRow_of_blk (C := C) (by simp) hlo hH.row hH.le hcm (by rw [List.length_append, length_tmCells] at hC ⊢; rw [hl]; exact hC)
/-- t.heap = t.heap[:n] -/
theorem Tw.cut_heap (h : Tw F w lo p most hp vh used vu taken vt set) {g cap n : Nat} (hv : vh = .slice (some ⟨g, 0, none⟩) hp.length cap) (hn : n ≤ hp.length) (h0 : 0 < hp.length) :
    Tw F (w.setCell ⟨p, 1, none⟩ (.slice (some ⟨g, 0, none⟩) n cap)) lo p most (hp.take n) (.slice (some ⟨g, 0, none⟩) n cap) used vu taken vt set := by
  have ho : Only (fun k => k = p) w (w.setCell ⟨p, 1, none⟩ (.slice (some ⟨g, 0, none⟩) n cap)) := (Only.refl (fun k => k = p) w).setCell (p := ⟨p, 1, none⟩) (fun _ => rfl) _
  have hg : vh.ownBlock = some g := by rw [hv]; rfl
  refine ⟨h.blk.set 1 _, ?_, owns_only h.used_ ho (fun k hk e => h.nu (by rw [hk, e])), owns_only h.taken_ ho (fun k hk e => h.nt (by rw [hk, e])),
    fun k hk => ?_, fun k hk => ⟨(h.lt k hk).1, Nat.lt_of_lt_of_le (h.lt k hk).2 ho.size⟩⟩
  · obtain ⟨g', cap', C, e, h1, h2, h3, h4, h5⟩ := ownsRow_blk h.heap h0
    rw [hv] at e
    injection e with e1 _ e3
    injection e1 with e1
    injection e1 with e1 _ _
    subst e1 e3
    have hl : (hp.take n).length = n := by rw [List.length_take]; omega
    have hb : Blk w g (tmCells (hp.take n) ++ (tmCells (hp.drop n) ++ C)) 57 := by
      rw [← List.append_assoc, ← tmCells_append, List.take_append_drop]; exact h2
    rw [hl]
    refine ownsRow_of_blk (C := tmCells (hp.drop n) ++ C) (by simp [hl]) h1 (hb.only ho (fun e => h.nh (by rw [hg, e]))) (by omega) h4 ?_
    rw [← List.append_assoc, ← tmCells_append, List.take_append_drop]; exact h5
  · rcases hk with hk | hk | hk | hk
    · exact h.foot k (.inl hk)
    · exact h.foot k (.inr (.inl (by rw [hg]; exact hk)))
    · exact h.foot k (.inr (.inr (.inl hk)))
    · exact h.foot k (.inr (.inr (.inr hk)))
end
end Go.Proofs.Ytbbihkddogbicaa
