/- Rows of numbers compared; Fire at nil timers; what a law keeps of its timers between the calls. -/
import Derived.Test.YtbbihkddogbicaaWalks13
namespace Go.Proofs.Ytbbihkddogbicaa
open Go.RowKit
set_option linter.unusedVariables false
set_option linter.unusedSimpArgs false

/-- A row of numbers, to be read. -/
def IRow (w : World) (v : Value) (l : List Int) : Prop :=
  ∃ ao cap, v = .slice ao l.length cap ∧ l.length ≤ cap ∧ cap ≤ 9223372036854775807 ∧
    (0 < l.length → ∃ g, ao = some ⟨g, 0, none⟩ ∧ g < w.heap.size ∧ ∀ i, i < l.length → w.cell? ⟨g, i, none⟩ = some (.int .i64 (l.getD i 0)))

theorem Ints.irow {w : World} {lo : Nat} {v : Value} {l : List Int} (h : Ints w lo v l) : IRow w v l := by
  unfold Ints at h
  obtain ⟨ao, cap, rfl, h1, h2, _, h4⟩ := ownsRow_slice h
  refine ⟨ao, cap, rfl, h1, by unfold maxLen at h2; omega, fun h0 => ?_⟩
  obtain ⟨g, rfl, hg⟩ := h4 h0
  refine ⟨g, rfl, (ownsRow_lt h g hg).2, fun i hi => ?_⟩
  rw [ownsRow_cell h hg i hi]
  simp [ints, List.getD_eq_getElem?_getD, hi]
theorem IRow.only {w w' : World} {v : Value} {l : List Int} (h : IRow w v l) (ho : Only (fun _ => False) w w') : IRow w' v l := by
  obtain ⟨ao, cap, rfl, h1, h2, h3⟩ := h
  refine ⟨ao, cap, rfl, h1, h2, fun h0 => ?_⟩
  obtain ⟨g, e, hg, hc⟩ := h3 h0
  refine ⟨g, e, Nat.lt_of_lt_of_le hg ho.size, fun i hi => ?_⟩
  rw [← hc i hi]
  unfold World.cell?
  rw [ho.block g hg (fun h => h)]
theorem IRow.blk {w : World} {g n : Nat} {l : List Int} (hb : Blk w g (ints l) 3) (h0 : l.length ≤ 9223372036854775807) (hn : n = l.length) : IRow w (.slice (some ⟨g, 0, none⟩) n n) l := by
  subst hn
  refine ⟨_, _, rfl, Nat.le_refl _, h0, fun _ => ⟨g, rfl, hb.lt, fun i hi => ?_⟩⟩
  rw [hb.cellAt]
  simp [ints, List.getD_eq_getElem?_getD, hi]

set_option maxRecDepth 100000 in
theorem ints_same {w : World} {v1 v2 : Value} {l : List Int} (h1 : IRow w v1 l) (h2 : IRow w v2 l) :
    Calls Try.prog 17 #[v1, v2] w fun e w' => e = .returned (.bool true) ∧ Only (fun _ => False) w w' := by
  obtain ⟨ao1, cap1, rfl, hlc1, hcm1, -⟩ := id h1
  obtain ⟨ao2, cap2, rfl, hlc2, hcm2, -⟩ := id h2
  have H1 := Lib.hid h1
  have H2 := Lib.hid h2
  clear h1 h2
  go_enter Try.func17, Try.ntmps17
  go_wp2
  go_loopw [5, 13] (fun _ i wr => ∃ j : Nat, j ≤ l.length ∧ i = .int .i64 j ∧ Only (fun _ => False) w wr) (fun _ i _ => l.length - (intOf i).toNat)
  case atStart => exact ⟨0, Nat.zero_le _, rfl, Only.refl _ _⟩
  case round =>
    obtain ⟨j, hj, rfl, hO⟩ := hrel
    have HO := Lib.hid hO
    clear hO
    by_cases hlt : j < l.length
    · obtain ⟨_, _, e1, _, _, k1⟩ := H1.out.only HO.out
      obtain ⟨_, _, e2, _, _, k2⟩ := H2.out.only HO.out
      obtain ⟨g1, e3, hg1, c1⟩ := k1 (by omega)
      obtain ⟨g2, e4, hg2, c2⟩ := k2 (by omega)
      subst e3 e4
      injection e1 with e1 _ e5
      injection e2 with e2 _ e6
      subst e1 e2 e5 e6
      replace c1 := c1 j hlt
      replace c2 := c2 j hlt
      clear k1 k2
      generalize l.getD j 0 = x at c1 c2
      go_wp2
      go_quiet (fail)
      go_wp2
      go_roundw
      case rel => exact ⟨j + 1, by omega, by go_num, HO.out.drewN _⟩
      case measure => simp [intOf]; omega
    · go_wp2
      go_ret
      exact ⟨rfl, HO.out⟩

theorem fire_nil (now : Int) (w : World) : Calls Try.prog 18 #[.pointer none, .int .i64 now] w fun e w' => e = .returned (.slice none 0 0) ∧ w = w' := by
  go_enter Try.func18, Try.ntmps18
  go_wp2
  go_loop [5] (fun v => v = .slice none 0 0) (fun _ => 0)
  case atStart => rfl
  case round =>
    subst hrel
    go_wp2_with (go_at_call 22; (with_reducible refine (len_nil _).mono ?_); rintro e w' ⟨rfl, rfl⟩)
    go_ret
    exact ⟨rfl, rfl⟩
end Go.Proofs.Ytbbihkddogbicaa
