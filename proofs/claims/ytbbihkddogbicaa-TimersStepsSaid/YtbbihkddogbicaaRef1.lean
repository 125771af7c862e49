/- The reference's timers: New, Has, first, Next. -/
import Derived.Test.YtbbihkddogbicaaWalks13
namespace Go.Proofs.Ytbbihkddogbicaa
open Go.RowKit
set_option linter.unusedVariables false
set_option linter.unusedSimpArgs false

def rtC (t : Tm) : List Value := [.int .i64 t.at_, .int .i64 t.key, .int .i64 t.handle]
def rtCells (h : List Tm) : List Value := h.flatMap rtC
@[simp] theorem length_rtCells (h : List Tm) : (rtCells h).length = h.length * 3 := by
  unfold rtCells
  induction h with
  | nil => rfl
  | cons t r ih => rw [List.flatMap_cons, List.length_append, ih, List.length_cons]; simp [rtC]; omega
theorem rtCells_append (a b : List Tm) : rtCells (a ++ b) = rtCells a ++ rtCells b := by simp [rtCells]
theorem rtCells_cons (t : Tm) (r : List Tm) : rtCells (t :: r) = rtC t ++ rtCells r := rfl
theorem rtCells_get {h : List Tm} {i k : Nat} (hi : i < h.length) (hk : k < 3) : (rtCells h)[i * 3 + k]? = (rtC (nth_ h i))[k]? := by
  induction h generalizing i with
  | nil => simp at hi
  | cons t r ih =>
    rw [rtCells_cons]
    cases i with
    | zero => rw [List.getElem?_append_left (by simp [rtC]; omega)]; simp [nth_]
    | succ i =>
      rw [List.getElem?_append_right (by simp [rtC]; omega)]
      have : (i + 1) * 3 + k - (rtC t).length = i * 3 + k := by simp [rtC]; omega
      rw [this, ih (by simpa using hi)]
      simp [nth_]

/-- The reference's timers at block p. -/
structure Tr (F : Nat → Prop) (w : World) (lo p most : Nat) (ts : List Tm) (vl : Value) (used : List Nat) (vg : Value) : Prop where
  blk : Blk w p [.int .i64 most, vl, vg] 46
  row : w.ownsRow lo 60 3 vl ts.length (rtCells ts)
  gens : w.ownsRow lo 3 1 vg used.length (used.map fun n => Value.int .i64 (n : Nat))
  foot : ∀ k, (k = p ∨ vl.ownBlock = some k ∨ vg.ownBlock = some k) → F k
  lt : ∀ k, F k → lo ≤ k ∧ k < w.heap.size

section
variable {F : Nat → Prop} {w : World} {lo p most : Nat} {ts : List Tm} {vl : Value} {used : List Nat} {vg : Value}

theorem Tr.only {S : Nat → Prop} {w' : World} (h : Tr F w lo p most ts vl used vg) (ho : Only S w w') (hd : ∀ k, F k → ¬ S k) : Tr F w' lo p most ts vl used vg :=
  ⟨h.blk.only ho (hd _ (h.foot _ (.inl rfl))), owns_only h.row ho (fun k hk => hd _ (h.foot _ (.inr (.inl hk)))), owns_only h.gens ho (fun k hk => hd _ (h.foot _ (.inr (.inr hk)))),
    h.foot, fun k hk => ⟨(h.lt k hk).1, Nat.lt_of_lt_of_le (h.lt k hk).2 ho.size⟩⟩
theorem Tr.foots {F' : Nat → Prop} (h : Tr F w lo p most ts vl used vg) (hF : ∀ k, F k → F' k) (hl : ∀ k, F' k → lo ≤ k ∧ k < w.heap.size) : Tr F' w lo p most ts vl used vg :=
  ⟨h.blk, h.row, h.gens, fun k hk => hF k (h.foot k hk), hl⟩
theorem Tr.nl (h : Tr F w lo p most ts vl used vg) : vl.ownBlock ≠ some p := ownsRow_ne h.row h.blk (by decide)
theorem Tr.ng (h : Tr F w lo p most ts vl used vg) : vg.ownBlock ≠ some p := ownsRow_ne h.gens h.blk (by decide)

/-- Where the row's cells lie. -/
theorem Tr.at_ (h : Tr F w lo p most ts vl used vg) {i : Nat} (hi : i < ts.length) : ∃ g cap, vl = .slice (some ⟨g, 0, none⟩) ts.length cap ∧ ts.length ≤ cap ∧ F g ∧
    w.cell? ⟨g, i * 3, none⟩ = some (.int .i64 (nth_ ts i).at_) ∧ w.cell? ⟨g, i * 3 + 1, none⟩ = some (.int .i64 (nth_ ts i).key) ∧ w.cell? ⟨g, i * 3 + 2, none⟩ = some (.int .i64 (nth_ ts i).handle) := by
  obtain ⟨g, cap, C, rfl, h1, h2, h3, h4, h5⟩ := ownsRow_blk h.row (by omega)
  have hl := length_rtCells ts
  have at' : ∀ k, k < 3 → w.cell? ⟨g, i * 3 + k, none⟩ = (rtC (nth_ ts i))[k]? := fun k hk => by
    rw [h2.cellAt, List.getElem?_append_left (by omega), rtCells_get hi hk]
  exact ⟨g, cap, rfl, h3, h.foot g (.inr (.inl rfl)), at' 0 (by omega), at' 1 (by omega), at' 2 (by omega)⟩

structure RNewPost (w w' : World) (most : Nat) : Prop where
  tr : Tr (fun k => k = w.heap.size) w' w.heap.size w.heap.size most [] (.slice none 0 0) [] (.slice none 0 0)
  below : Below w.heap.size w w'
  size : w'.heap.size = w.heap.size + 1

set_option maxRecDepth 100000 in
theorem rnew_ok (w : World) (most : Nat) (h : 1 ≤ most ∧ most ≤ 4096) :
    Calls Try.prog 9 #[.int .i64 most] w fun e w' => e = .returned (.tuple #[.pointer (some ⟨w.heap.size, 0, none⟩), .int .i64 0]) ∧ RNewPost w w' most := by
  obtain ⟨h1, h2⟩ := h
  go_enter Try.func9, Try.ntmps9
  go_wp2
  go_ret2
  refine ⟨rfl, ⟨⟨Blk.new w [.int .i64 most, .slice none 0 0, .slice none 0 0] 46, World.ownsRow_nil _ _ _ _, World.ownsRow_nil _ _ _ _, fun k hk => ?_, fun k hk => ⟨by omega, by simp; omega⟩⟩,
    (Below.refl _ _).alloc (Nat.le_refl _) _, by simp⟩⟩
  rcases hk with hk | hk | hk
  · exact hk
  · cases hk
  · cases hk
theorem rnew_bad (w : World) (most : Int) (h : ¬ (1 ≤ most ∧ most ≤ 4096)) :
    Calls Try.prog 9 #[.int .i64 most] w fun e w' => e = .returned (.tuple #[.pointer none, .int .i64 1]) ∧ w = w' := by
  rcases (show most < 1 ∨ (1 ≤ most ∧ 4096 < most) by omega) with h1 | ⟨h1, h2⟩
  all_goals
    clear h
    go_enter Try.func9, Try.ntmps9
    go_wp2
    go_ret2
    exact ⟨rfl, rfl⟩

theorem has_take (ts : List Tm) (hd : Int) (j : Nat) (hj : j < ts.length) : has (ts.take (j + 1)) hd = (has (ts.take j) hd || ((nth_ ts j).handle : Int) == hd) := by
  unfold has
  rw [List.take_succ_eq_append_getElem hj, List.any_append, nth_eq hj]
  simp
theorem has_of_take {ts : List Tm} {hd : Int} {j : Nat} (h : has (ts.take j) hd = true) : has ts hd = true := by
  obtain ⟨t, ht, e⟩ := has_iff.1 h
  exact has_iff.2 ⟨t, List.mem_of_mem_take ht, e⟩

theorem r_has (h : Tr F w lo p most ts vl used vg) (hm : ts.length ≤ 4096) (hd : Int) :
    Calls Try.prog 14 #[.pointer (some ⟨p, 0, none⟩), .int .i64 hd] w fun e w' => e = .returned (.bool (has ts hd)) ∧ Only (fun _ => False) w w' := by
  obtain ⟨ao, cap, rfl, hlc, hcm, _, _⟩ := ownsRow_slice h.row
  have c1 := h.blk.cell 1 _ rfl
  have H := Lib.hid h
  clear h
  go_enter Try.func14, Try.ntmps14
  go_wp2
  go_loopw [6, 12] (fun _ i wr => ∃ j : Nat, j ≤ ts.length ∧ i = .int .i64 j ∧ Only (fun _ => False) w wr ∧ Hid (has (ts.take j) hd = false)) (fun _ i _ => ts.length - (intOf i).toNat)
  case atStart => exact ⟨0, Nat.zero_le _, rfl, Only.refl _ _, rfl⟩
  case round =>
    obtain ⟨j, hj, rfl, hO, hF⟩ := hrel
    have HO := Lib.hid hO
    clear hO
    by_cases hlt : j < ts.length
    · obtain ⟨g, cap', e, _, _, a0, a1, a2⟩ := (H.out.only HO.out (fun _ _ => id)).at_ hlt
      injection e with e1 _ e3
      subst e1 e3
      obtain ⟨x, hx⟩ : ∃ x, x = nth_ ts j := ⟨_, rfl⟩
      rw [← hx] at a0 a1 a2
      have hht := has_take ts hd j hlt
      rw [hF.out, ← hx, Bool.false_or] at hht
      have HX := Lib.hid hx
      by_cases heq : (x.handle : Int) = hd
      · have f1 : ((x.handle : Int) == hd) = true := beq_iff_eq.2 heq
        rw [f1] at hht
        have HH := Lib.hid (has_of_take hht)
        have HE := Lib.hid heq
        clear hht hx heq
        go_wp2
        go_ret
        exact ⟨ret_bool (by rw [HH.out]), HO.out.alloc _⟩
      · have f1 : ((x.handle : Int) == hd) = false := beq_eq_false_iff_ne.2 heq
        rw [f1] at hht
        have HH := Lib.hid hht
        clear hht hx heq
        go_wp2
        go_roundw
        case rel => exact ⟨j + 1, by omega, by go_num, HO.out.alloc _, HH⟩
        case measure => simp [intOf]; omega
    · have hjl : ts.take j = ts := List.take_of_length_le (by omega)
      have HJ := Lib.hid hjl
      clear hjl
      go_wp2
      go_ret
      exact ⟨ret_bool (by rw [← HJ.out, hF.out]), HO.out⟩
end
end Go.Proofs.Ytbbihkddogbicaa
