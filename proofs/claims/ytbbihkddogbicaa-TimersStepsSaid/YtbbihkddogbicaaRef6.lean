/- The reference's timers: Moment, Set. -/
import Derived.Test.YtbbihkddogbicaaRef5
namespace Go.Proofs.Ytbbihkddogbicaa
open Go.RowKit
set_option linter.unusedVariables false
set_option linter.unusedSimpArgs false

theorem rmoment_ok (t : Int) (w : World) (h1 : 0 ≤ t) (h2 : t ≤ 4611686018427387904) : Calls Try.prog 23 #[.int .i64 t] w fun e w' => e = .returned (.bool true) ∧ w = w' := by
  go_enter Try.func23, Try.ntmps23
  go_wp2
  go_ret
  exact ⟨rfl, rfl⟩
theorem rmoment_bad (t : Int) (w : World) (h : t < 0 ∨ 4611686018427387904 < t) : Calls Try.prog 23 #[.int .i64 t] w fun e w' => e = .returned (.bool false) ∧ w = w' := by
  rcases (show t < 0 ∨ (0 ≤ t ∧ 4611686018427387904 < t) by omega) with h1 | ⟨h1, h2⟩
  · have f1 : decide (0 ≤ t) = false := decide_eq_false (by omega)
    clear h
    go_enter Try.func23, Try.ntmps23
    go_wp2
    go_ret
    exact ⟨rfl, rfl⟩
  · have f2 : decide (t ≤ 4611686018427387904) = false := decide_eq_false (by omega)
    clear h
    go_enter Try.func23, Try.ntmps23
    go_wp2
    go_ret
    exact ⟨rfl, rfl⟩

section
variable {F : Nat → Prop} {w : World} {lo p most : Nat} {ts : List Tm} {vl : Value} {used : List Nat} {vg : Value} {at_ : Int}

theorem r_set_bad (h : at_ < 0 ∨ 4611686018427387904 < at_) (q : Option Addr) (key : Int) (w : World) : Calls Try.prog 12 #[.pointer q, .int .i64 at_, .int .i64 key] w fun e w' => e = .returned (.tuple #[.int .i64 0, .int .i64 1]) ∧ w = w' := by
  have H := Lib.hid h
  clear h
  go_enter Try.func12, Try.ntmps12
  go_wp2_with (go_at_call 23; (with_reducible refine (rmoment_bad _ _ H.out).mono ?_); rintro e w' ⟨rfl, rfl⟩)
  go_ret2
  exact ⟨rfl, rfl⟩
theorem r_set_full (h : 0 ≤ at_ ∧ at_ ≤ 4611686018427387904) (key : Int) (hT : Tr F w lo p most ts vl used vg) (hf : ts.length = most) : Calls Try.prog 12 #[.pointer (some ⟨p, 0, none⟩), .int .i64 at_, .int .i64 key] w fun e w' => e = .returned (.tuple #[.int .i64 0, .int .i64 5]) ∧ Drawn w w' := by
  obtain ⟨a, c, rfl, _, _, _, _⟩ := ownsRow_slice hT.row
  have c1 := hT.blk.cell 1 _ rfl
  have c0 := hT.blk.cell 0 _ rfl
  rw [hf] at c1
  have H := Lib.hid h
  clear h hf hT
  go_enter Try.func12, Try.ntmps12
  go_wp2_with (go_at_call 23; (with_reducible refine (rmoment_ok _ _ H.out.1 H.out.2).mono ?_); rintro e w' ⟨rfl, rfl⟩)
  go_quiet (fail)
  go_wp2_with fail
  go_ret2
  exact ⟨rfl, Drawn.of _ _⟩

/-- t.Gens[i] = n -/
theorem Tr.st_gens (h : Tr F w lo p most ts vl used vg) {g i : Nat} (hg : vg.ownBlock = some g) (hi : i < used.length) (n : Nat) : Tr F (w.setCell ⟨g, i, none⟩ (.int .i64 n)) lo p most ts vl (used.set i n) vg := by
  have ho : Only (fun k => k = g) w (w.setCell ⟨g, i, none⟩ (.int .i64 n)) := (Only.refl (fun k => k = g) w).setCell (p := ⟨g, i, none⟩) (fun _ => rfl) _
  refine ⟨h.blk.only ho (fun e => h.ng (by rw [hg, e])), owns_only h.row ho (fun k hk e => own_own_ne h.row h.gens (by decide) k hk (by rw [hg, e])), ?_, h.foot, fun k hk => ⟨(h.lt k hk).1, Nat.lt_of_lt_of_le (h.lt k hk).2 ho.size⟩⟩
  rw [List.length_set, List.map_set]
  exact owns_set h.gens hg hi
/-- t.L = append(t.L, x) -/
theorem Tr.app_row (h : Tr F w lo p most ts vl used vg) {o : Obj} {w2 : World} {v2 : Value} {x : Tm} (hown : w2.ownsRow lo 60 3 v2 (ts.length + 1) (rtCells ts ++ rtC x)) (hon : Only (fun i => vl.ownBlock = some i) (w.alloc o) w2)
    (hat : v2.ownBlock = vl.ownBlock ∨ v2.ownBlock = some (w.heap.size + 1)) :
    Tr (More F w w2) (w2.setCell ⟨p, 1, none⟩ v2) lo p most (ts ++ [x]) v2 used vg ∧ Only F w (w2.setCell ⟨p, 1, none⟩ v2) := by
  have hp_ := h.blk.lt
  have ha : Only (fun i => vl.ownBlock = some i) w w2 := ((Only.refl _ w).alloc o).trans hon (fun _ _ h => h)
  have hs := hon.size
  simp only [World.size_alloc] at hs
  have hst : Only (fun k => k = p) w2 (w2.setCell ⟨p, 1, none⟩ v2) := (Only.refl (fun k => k = p) w2).setCell (p := ⟨p, 1, none⟩) (fun _ => rfl) _
  have hn2 : v2.ownBlock ≠ some p := by
    rcases hat with e | e
    · rw [e]; exact h.nl
    · rw [e]; simp only [ne_eq, Option.some.injEq]; omega
  have hl2 := ownsRow_lt hown
  refine ⟨⟨(h.blk.only ha (fun e => h.nl e)).set 1 v2, ?_, ?_, fun k hk => ?_, fun k hk => ?_⟩, ?_⟩
  · rw [List.length_append, List.length_singleton, rtCells_append, rtCells_cons, show rtCells [] = [] from rfl, List.append_nil]
    exact owns_only hown hst (fun k hk e => hn2 (by rw [hk, e]))
  · exact owns_only (owns_only h.gens ha (fun k hk e => own_own_ne h.gens h.row (by decide) k hk e)) hst (fun k hk e => h.ng (by rw [hk, e]))
  · rcases hk with hk | hk | hk
    · exact .inl (h.foot k (.inl hk))
    · rcases hat with e | e
      · exact .inl (h.foot k (.inr (.inl (by rw [← e]; exact hk))))
      · have := (hl2 k hk).2
        rw [e] at hk
        injection hk with hk
        exact .inr (by omega)
    · exact .inl (h.foot k (.inr (.inr hk)))
  · have hz := hst.size
    rcases hk with hk | hk
    · have := h.lt k hk; omega
    · have := (h.lt p (h.foot p (.inl rfl))).1; omega
  · exact (ha.mono (fun i _ e => h.foot i (.inr (.inl e)))).setCell (p := ⟨p, 1, none⟩) (fun _ => h.foot p (.inl rfl)) _
end
end Go.Proofs.Ytbbihkddogbicaa
