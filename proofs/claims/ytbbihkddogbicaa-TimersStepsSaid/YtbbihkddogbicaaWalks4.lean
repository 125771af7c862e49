/- timers.New, Len, Next; tick.Add; slices.Index at bools. -/
import Derived.Test.YtbbihkddogbicaaBase
namespace Go.Proofs.Ytbbihkddogbicaa
open Go.RowKit
set_option linter.unusedVariables false
set_option linter.unusedSimpArgs false

theorem moment_ok (t : Int) (w : World) (h1 : 0 ≤ t) (h2 : t ≤ 4611686018427387904) : Calls Try.prog 32 #[.int .i64 t] w fun e w' => e = .returned (.bool true) ∧ w = w' := by
  go_enter Try.func32, Try.ntmps32
  go_wp2
  go_ret
  exact ⟨rfl, rfl⟩
theorem moment_bad (t : Int) (w : World) (h : t < 0 ∨ 4611686018427387904 < t) : Calls Try.prog 32 #[.int .i64 t] w fun e w' => e = .returned (.bool false) ∧ w = w' := by
  rcases (show t < 0 ∨ (0 ≤ t ∧ 4611686018427387904 < t) by omega) with h1 | ⟨h1, h2⟩
  · have f1 : decide (0 ≤ t) = false := decide_eq_false (by omega)
    clear h
    go_enter Try.func32, Try.ntmps32
    go_wp2
    go_ret
    exact ⟨rfl, rfl⟩
  · have f2 : decide (t ≤ 4611686018427387904) = false := decide_eq_false (by omega)
    clear h
    go_enter Try.func32, Try.ntmps32
    go_wp2
    go_ret
    exact ⟨rfl, rfl⟩
theorem later_zero (t : Int) (w : World) (h1 : 0 ≤ t) (h2 : t ≤ 4611686018427387904) : Calls Try.prog 33 #[.int .i64 t, .int .i64 0] w fun e w' => e = .returned (.int .i64 t) ∧ w = w' := by
  go_enter Try.func33, Try.ntmps33
  go_wp2
  go_ret
  exact ⟨ret_int (by omega), rfl⟩

theorem add_ok (t : Int) (w : World) (h : 0 ≤ t ∧ t ≤ 4611686018427387904) : Calls Try.prog 24 #[.int .i64 t, .int .i64 0] w fun e w' => e = .returned (.tuple #[.int .i64 t, .int .i64 0]) ∧ w = w' := by
  obtain ⟨h1, h2⟩ := h
  go_enter Try.func24, Try.ntmps24
  go_wp2_with (first
    | (go_at_call 32; (with_reducible refine (moment_ok t _ h1 h2).mono ?_); rintro e w' ⟨rfl, rfl⟩)
    | (go_at_call 33; (with_reducible refine (later_zero t _ h1 h2).mono ?_); rintro e w' ⟨rfl, rfl⟩))
  go_ret2
  exact ⟨rfl, rfl⟩
theorem add_bad (t : Int) (w : World) (h : t < 0 ∨ 4611686018427387904 < t) : Calls Try.prog 24 #[.int .i64 t, .int .i64 0] w fun e w' => e = .returned (.tuple #[.int .i64 0, .int .i64 1]) ∧ w = w' := by
  have H := Lib.hid h
  clear h
  go_enter Try.func24, Try.ntmps24
  go_wp2_with (go_at_call 32; (with_reducible refine (moment_bad t _ H.out).mono ?_); rintro e w' ⟨rfl, rfl⟩)
  go_ret2
  exact ⟨rfl, rfl⟩

/-- The timers at block p: their heap, ages and marks in rows of the call's own; F: where all that lies. -/
structure Tw (F : Nat → Prop) (w : World) (lo p most : Nat) (hp : List Tm) (vh : Value) (used : List Nat) (vu : Value) (taken : List Bool) (vt : Value) (set : Nat) : Prop where
  blk : Blk w p [.int .i64 most, vh, vu, vt, .int .i64 set] 55
  heap : w.ownsRow lo 57 4 vh hp.length (tmCells hp)
  used_ : w.ownsRow lo 3 1 vu used.length (used.map fun n => Value.int .i64 (n : Nat))
  taken_ : w.ownsRow lo 4 1 vt taken.length (taken.map Value.bool)
  foot : ∀ k, (k = p ∨ vh.ownBlock = some k ∨ vu.ownBlock = some k ∨ vt.ownBlock = some k) → F k
  lt : ∀ k, F k → lo ≤ k ∧ k < w.heap.size

section
variable {F : Nat → Prop} {w : World} {lo p most : Nat} {hp : List Tm} {vh : Value} {used : List Nat} {vu : Value} {taken : List Bool} {vt : Value} {set : Nat}

theorem Tw.only {S : Nat → Prop} {w' : World} (h : Tw F w lo p most hp vh used vu taken vt set) (ho : Only S w w') (hd : ∀ k, F k → ¬ S k) : Tw F w' lo p most hp vh used vu taken vt set :=
  ⟨h.blk.only ho (hd _ (h.foot _ (.inl rfl))), owns_only h.heap ho (fun k hk => hd _ (h.foot _ (.inr (.inl hk)))), owns_only h.used_ ho (fun k hk => hd _ (h.foot _ (.inr (.inr (.inl hk))))),
    owns_only h.taken_ ho (fun k hk => hd _ (h.foot _ (.inr (.inr (.inr hk))))), h.foot, fun k hk => ⟨(h.lt k hk).1, Nat.lt_of_lt_of_le (h.lt k hk).2 ho.size⟩⟩

structure NewPost (w w' : World) (most : Nat) : Prop where
  tw : Tw (fun k => k = w.heap.size) w' w.heap.size w.heap.size most [] (.slice none 0 0) [] (.slice none 0 0) [] (.slice none 0 0) 0
  below : Below w.heap.size w w'
  size : w'.heap.size = w.heap.size + 1

set_option maxRecDepth 100000 in
theorem new_ok (w : World) (most : Nat) (h : 1 ≤ most ∧ most ≤ 4096) :
    Calls Try.prog 8 #[.int .i64 most] w fun e w' => e = .returned (.tuple #[.pointer (some ⟨w.heap.size, 0, none⟩), .int .i64 0]) ∧ NewPost w w' most := by
  obtain ⟨h1, h2⟩ := h
  go_enter Try.func8, Try.ntmps8
  go_wp2
  go_ret2
  refine ⟨rfl, ⟨⟨Blk.new w [.int .i64 most, .slice none 0 0, .slice none 0 0, .slice none 0 0, .int .i64 0] 55, World.ownsRow_nil _ _ _ _, World.ownsRow_nil _ _ _ _, World.ownsRow_nil _ _ _ _, fun k hk => ?_, fun k hk => ⟨by omega, by simp; omega⟩⟩,
    (Below.refl _ _).alloc (Nat.le_refl _) _, by simp⟩⟩
  rcases hk with hk | hk | hk | hk
  · exact hk
  · cases hk
  · cases hk
  · cases hk
theorem new_bad (w : World) (most : Int) (h : ¬ (1 ≤ most ∧ most ≤ 4096)) :
    Calls Try.prog 8 #[.int .i64 most] w fun e w' => e = .returned (.tuple #[.pointer none, .int .i64 1]) ∧ w = w' := by
  rcases (show most < 1 ∨ (1 ≤ most ∧ 4096 < most) by omega) with h1 | ⟨h1, h2⟩
  all_goals
    clear h
    go_enter Try.func8, Try.ntmps8
    go_wp2
    go_ret2
    exact ⟨rfl, rfl⟩

theorem len_any (h : Tw F w lo p most hp vh used vu taken vt set) : Calls Try.prog 22 #[.pointer (some ⟨p, 0, none⟩)] w fun e w' => e = .returned (.int .i64 hp.length) ∧ w = w' := by
  obtain ⟨a, c, rfl, _, _, _, _⟩ := ownsRow_slice h.heap
  have hc := h.blk.cell 1 _ rfl
  clear h
  go_enter Try.func22, Try.ntmps22
  go_wp2
  go_ret
  exact ⟨rfl, rfl⟩
theorem len_nil (w : World) : Calls Try.prog 22 #[.pointer none] w fun e w' => e = .returned (.int .i64 0) ∧ w = w' := by
  go_enter Try.func22, Try.ntmps22
  go_wp2
  go_ret
  exact ⟨rfl, rfl⟩

/-- Where the row lies. -/
theorem Tw.hp_ (h : Tw F w lo p most hp vh used vu taken vt set) (hm : hp.length ≤ 4096) (h0 : 0 < hp.length) : ∃ g cap C, vh = .slice (some ⟨g, 0, none⟩) hp.length cap ∧ Hp w p g cap hp C ∧ F g ∧ lo ≤ g ∧ cap ≤ maxLen ∧ (tmCells hp ++ C).length = cap * 4 := by
  obtain ⟨g, cap, C, rfl, h1, h2, h3, h4, h5⟩ := ownsRow_blk h.heap h0
  exact ⟨g, cap, C, rfl, ⟨h.blk.cell 1 _ rfl, h2, h3, hm, fun e => by subst e; exact absurd (h.blk.inj h2).2 (by decide), h.blk.lt⟩, h.foot g (.inr (.inl rfl)), h1, h4, h5⟩

theorem next_some (h : Tw F w lo p most hp vh used vu taken vt set) (hm : hp.length ≤ 4096) (h0 : 0 < hp.length) :
    Calls Try.prog 20 #[.pointer (some ⟨p, 0, none⟩)] w fun e w' => e = .returned (.tuple #[.int .i64 (nth_ hp 0).at_, .bool true]) ∧ w = w' := by
  obtain ⟨g, cap, C, rfl, hH, _⟩ := h.hp_ hm h0
  obtain ⟨a0, -, -, -⟩ := hH.cells h0
  have hf := hH.fld
  have hle := hH.le
  have HT := Lib.hid h
  clear h hH
  go_enter Try.func20, Try.ntmps20
  go_wp2_with (go_at_call 22; (with_reducible refine (len_any HT.out).mono ?_); rintro e w' ⟨rfl, rfl⟩)
  go_ret2
  exact ⟨rfl, rfl⟩
theorem next_none (h : Tw F w lo p most hp vh used vu taken vt set) (h0 : hp.length = 0) :
    Calls Try.prog 20 #[.pointer (some ⟨p, 0, none⟩)] w fun e w' => e = .returned (.tuple #[.int .i64 0, .bool false]) ∧ w = w' := by
  have HT := Lib.hid h
  have H0 := Lib.hid h0
  clear h h0
  go_enter Try.func20, Try.ntmps20
  go_wp2_with (go_at_call 22; (with_reducible refine (len_any HT.out).mono ?_); rintro e w' ⟨rfl, rfl⟩; rw [H0.out])
  go_ret2
  exact ⟨rfl, rfl⟩
theorem next_nil (w : World) : Calls Try.prog 20 #[.pointer none] w fun e w' => e = .returned (.tuple #[.int .i64 0, .bool false]) ∧ w = w' := by
  go_enter Try.func20, Try.ntmps20
  go_wp2_with (go_at_call 22; (with_reducible refine (len_nil _).mono ?_); rintro e w' ⟨rfl, rfl⟩)
  go_ret2
  exact ⟨rfl, rfl⟩
end

/-- Where the first false is; -1: nowhere. -/
def indexF (l : List Bool) : Int := if l.findIdx (fun b => b == false) < l.length then (l.findIdx (fun b => b == false) : Int) else -1
theorem indexF_at {l : List Bool} {k : Nat} (hk : k < l.length) (h0 : ∀ i, i < k → l.getD i false = true) (h1 : l.getD k false = false) : indexF l = k := by
  have e : l.findIdx (fun b => b == false) = k := by
    refine (List.findIdx_eq hk).2 ⟨?_, fun j hj => ?_⟩
    · rw [List.getD_eq_getElem?_getD, List.getElem?_eq_getElem hk] at h1
      simpa using h1
    · have := h0 j hj
      rw [List.getD_eq_getElem?_getD, List.getElem?_eq_getElem (by omega)] at this
      simpa using this
  unfold indexF
  rw [e, if_pos hk]
theorem indexF_none {l : List Bool} (h0 : ∀ i, i < l.length → l.getD i false = true) : indexF l = -1 := by
  unfold indexF
  rw [if_neg]
  intro hlt
  have h1 := List.findIdx_getElem (p := fun b => b == false) (w := hlt)
  have h2 := h0 _ hlt
  rw [List.getD_eq_getElem?_getD, List.getElem?_eq_getElem hlt] at h2
  simp at h1 h2
  rw [h2] at h1
  cases h1

theorem index_any {w : World} {lo : Nat} {v : Value} {l : List Bool} (h : w.ownsRow lo 4 1 v l.length (l.map Value.bool)) (hm : l.length ≤ 4096) :
    Calls Try.prog 34 #[v, .bool false] w fun e w' => e = .returned (.int .i64 (indexF l)) ∧ w = w' := by
  obtain ⟨ao, cap, rfl, hlc, hcm, hnil, hsome⟩ := ownsRow_slice h
  have H := Lib.hid h
  have HS := Lib.hid hsome
  clear h hsome hnil
  go_enter Try.func34, Try.ntmps34
  go_wp2
  go_loop [5, 8] (fun _ i => ∃ k : Nat, k ≤ l.length ∧ i = .int .i64 k ∧ (∀ j, j < k → l.getD j false = true)) (fun _ i => l.length - (intOf i).toNat)
  case atStart => exact ⟨0, Nat.zero_le _, rfl, fun j hj => absurd hj (Nat.not_lt_zero _)⟩
  case round =>
    obtain ⟨k, hk, rfl, hall⟩ := hrel
    have HA := Lib.hid hall
    clear hall
    by_cases hlt : k < l.length
    · obtain ⟨g, rfl, hg⟩ := HS.out (by omega)
      have cq : w.cell? ⟨g, k, none⟩ = some (.bool (l.getD k false)) := by
        rw [ownsRow_cell H.out hg k hlt, List.getElem?_map, List.getElem?_eq_getElem hlt, List.getD_eq_getElem?_getD, List.getElem?_eq_getElem hlt]
        rfl
      obtain ⟨y, hy⟩ : ∃ y, y = l.getD k false := ⟨_, rfl⟩
      rw [← hy] at cq
      have HY := Lib.hid hy
      clear hy hg
      cases y with
      | false =>
        have hfi : indexF l = k := indexF_at hlt HA.out HY.out.symm
        have HF := Lib.hid hfi
        clear hfi
        go_wp2
        go_ret
        exact ⟨ret_int (by rw [HF.out]), rfl⟩
      | true =>
        have hall2 : ∀ j, j < k + 1 → l.getD j false = true := fun j hj => by
          rcases Nat.lt_or_ge j k with hjk | hjk
          · exact HA.out j hjk
          · rw [show j = k by omega, ← HY.out]
        have HA2 := Lib.hid hall2
        clear hall2
        go_wp2
        go_round
        case rel => exact ⟨k + 1, by omega, by go_num, HA2.out⟩
        case measure => simp [intOf]; omega
    · have hfi : indexF l = -1 := indexF_none fun i hi => HA.out i (by omega)
      have HF := Lib.hid hfi
      clear hfi
      go_wp2
      go_ret
      exact ⟨ret_int (by rw [HF.out]), rfl⟩
end Go.Proofs.Ytbbihkddogbicaa
