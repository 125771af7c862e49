/- slices.IndexFunc, slices.DeleteFunc at runs. -/
import Derived.Test.YtlcblfkmadjppaaWalks1
import Derived.Lib.SliceRun
namespace Go.Proofs.Ytlcblfkmadjppaa
open Go.RowKit
set_option linter.unusedVariables false
set_option linter.unusedSimpArgs false

abbrev runV (x : Run) : Value := .agg #[.int .i64 x.id, .int .i64 x.since]
def runAt (l : List Run) (i : Nat) : Run := l.getD i default
theorem runAt_eq {l : List Run} {i : Nat} (h : i < l.length) : runAt l i = l[i] := by simp [runAt, List.getD_eq_getElem?_getD, h]

theorem clos53 {w : World} (x : Run) (id : Int) (gs : Nat) (hc : w.cell? ⟨gs, 0, none⟩ = some (.int .i64 id)) (hg : gs < w.heap.size) :
    Calls Try.prog 53 #[runV x, .pointer (some ⟨gs, 0, none⟩)] w fun e w' => e = .returned (.bool ((x.id : Int) == id)) ∧ Only (fun _ => False) w w' := by
  have hn : gs ≠ w.heap.size := by omega
  go_enter Try.func53, Try.ntmps53
  go_wp2
  go_ret
  exact ⟨rfl, (Only.refl _ _).alloc _⟩
theorem clos55 {w : World} (x : Run) (id : Int) (gs : Nat) (hc : w.cell? ⟨gs, 0, none⟩ = some (.int .i64 id)) (hg : gs < w.heap.size) :
    Calls Try.prog 55 #[runV x, .pointer (some ⟨gs, 0, none⟩)] w fun e w' => e = .returned (.bool ((x.id : Int) == id)) ∧ Only (fun _ => False) w w' := by
  have hn : gs ≠ w.heap.size := by omega
  go_enter Try.func55, Try.ntmps55
  go_wp2
  go_ret
  exact ⟨rfl, (Only.refl _ _).alloc _⟩

/-- A row of runs, read. -/
structure RunsAt (w : World) (g : Nat) (l : List Run) : Prop where
  lt : 0 < l.length → g < w.heap.size
  at_ : ∀ i, i < l.length → w.cell? ⟨g, i * 2, none⟩ = some (.int .i64 (runAt l i).id) ∧ w.cell? ⟨g, i * 2 + 1, none⟩ = some (.int .i64 (runAt l i).since)
theorem blk_runs {w : World} {g : Nat} {l : List Run} {A C : List Value} {a : Nat} (h : Blk w g (A ++ (runCells l ++ C)) 64) (hA : A.length = a * 2) : ∀ i, i < l.length → w.cell? ⟨g, (a + i) * 2, none⟩ = some (.int .i64 (runAt l i).id) ∧ w.cell? ⟨g, (a + i) * 2 + 1, none⟩ = some (.int .i64 (runAt l i).since) := by
  intro i hi
  have hl := runCells_len l
  have key : ∀ j, j < 2 → w.cell? ⟨g, (a + i) * 2 + j, none⟩ = (runC l[i])[j]? := fun j hj => by
    rw [h.cellAt, List.getElem?_append_right (by omega), show (a + i) * 2 + j - A.length = i * 2 + j by omega, List.getElem?_append_left (by omega)]
    exact flat_get runC_len hi hj
  rw [runAt_eq hi]
  exact ⟨key 0 (by omega), key 1 (by omega)⟩
theorem own_runs {w : World} {lo : Nat} {v : Value} {l : List Run} (h : w.ownsRow lo 64 2 v l.length (runCells l)) (h0 : 0 < l.length) :
    ∃ g cap C, v = .slice (some ⟨g, 0, none⟩) l.length cap ∧ l.length ≤ cap ∧ cap ≤ maxLen ∧ Blk w g (runCells l ++ C) 64 ∧ (runCells l ++ C).length = cap * 2 ∧ RunsAt w g l ∧ lo ≤ g := by
  obtain ⟨g, cap, C, rfl, h1, h2, h3, h4, h5⟩ := ownsRow_blk h h0
  refine ⟨g, cap, C, rfl, h3, h4, h2, h5, ⟨fun _ => h2.lt, fun i hi => ?_⟩, h1⟩
  have := blk_runs (A := []) (a := 0) h2 rfl i hi
  rwa [Nat.zero_add] at this
theorem RunsAt.only {S : Nat → Prop} {w w' : World} {g : Nat} {l : List Run} (h : RunsAt w g l) (ho : Only S w w') (hg : ¬ S g) : RunsAt w' g l :=
  ⟨fun h0 => Nat.lt_of_lt_of_le (h.lt h0) ho.size, fun i hi => by
    have hb := ho.block g (h.lt (by omega)) hg
    obtain ⟨h1, h2⟩ := h.at_ i hi
    exact ⟨(World.cell?_of_block (a := ⟨g, i * 2, none⟩) hb).trans h1, (World.cell?_of_block (a := ⟨g, i * 2 + 1, none⟩) hb).trans h2⟩⟩

/-- Where the one of a number is; -1: nowhere. -/
def FindI (l : List Run) (id : Int) (k : Int) : Prop :=
  (k = -1 ∧ ∀ i, i < l.length → ((runAt l i).id : Int) ≠ id) ∨ ∃ i : Nat, k = i ∧ i < l.length ∧ ((runAt l i).id : Int) = id ∧ ∀ j, j < i → ((runAt l j).id : Int) ≠ id

/-- A function that tells by the number, whatever the world holds besides. -/
def ById (f : Nat) (gs : Nat) (id : Int) : Prop :=
  ∀ (w : World) (x : Run), w.cell? ⟨gs, 0, none⟩ = some (.int .i64 id) → gs < w.heap.size → Calls Try.prog f #[runV x, .pointer (some ⟨gs, 0, none⟩)] w fun e w' => e = .returned (.bool ((x.id : Int) == id)) ∧ Only (fun _ => False) w w'

set_option maxRecDepth 100000 in
theorem indexFunc53 {w : World} {ao : Option Addr} {n cap g : Nat} {l : List Run} (hn : l.length = n) (hao : 0 < n → ao = some ⟨g, 0, none⟩) (hcap : n ≤ cap) (hmax : cap ≤ 9223372036854775807) (hr : RunsAt w g l) (id : Int) (gs : Nat) (hc : w.cell? ⟨gs, 0, none⟩ = some (.int .i64 id)) (hgs : gs < w.heap.size) :
    Calls Try.prog 52 #[.slice ao n cap, .func (.func 53) #[] #[.pointer (some ⟨gs, 0, none⟩)]] w fun e w' => ∃ k, e = .returned (.int .i64 k) ∧ FindI l id k ∧ Only (fun _ => False) w w' := by
  have HN := Lib.hid hn
  have HA := Lib.hid hao
  have HR := Lib.hid hr
  have HC := Lib.hid hc
  clear hn hao hr hc
  go_enter Try.func52, Try.ntmps52
  go_wp2
  go_loopw [5, 8] (fun _ i wr => ∃ j : Nat, j ≤ n ∧ i = .int .i64 j ∧ Only (fun _ => False) w wr ∧ Hid (∀ i, i < j → ((runAt l i).id : Int) ≠ id)) (fun _ i _ => n - (intOf i).toNat)
  case atStart => exact ⟨0, Nat.zero_le _, rfl, Only.refl _ _, fun i hi => absurd hi (Nat.not_lt_zero _)⟩
  case round =>
    obtain ⟨j, hj, rfl, hO, hF⟩ := hrel
    have HO := Lib.hid hO
    clear hO
    by_cases hlt : j < n
    · have ea := HA.out (by omega)
      subst ea
      have hjl : j < l.length := by rw [HN.out]; exact hlt
      obtain ⟨a0, a1⟩ := (HR.out.only HO.out (fun h => h)).at_ j hjl
      have hcr := (World.cell?_of_block (a := ⟨gs, 0, none⟩) (HO.out.block gs hgs (fun h => h))).trans HC.out
      have hgr : gs < wr.heap.size := Nat.lt_of_lt_of_le hgs HO.out.size
      obtain ⟨x, hx⟩ : ∃ x, x = runAt l j := ⟨_, rfl⟩
      rw [← hx] at a0 a1
      have HX := Lib.hid hx
      have HCR := Lib.hid hcr
      clear hx hcr hjl
      obtain ⟨b, hb⟩ : ∃ b, b = ((x.id : Int) == id) := ⟨_, rfl⟩
      have hcl := clos53 x id gs HCR.out hgr
      rw [← hb] at hcl
      have HCL := Lib.hid hcl
      have HB := Lib.hid hb
      clear hcl hb
      cases b with
      | true =>
        go_wp2_with (go_at_call 53; (refine HCL.out.mono ?_); rintro e w1 ⟨rfl, hO1⟩; have HO1 := Lib.hid hO1; clear hO1)
        go_ret
        exact ⟨_, rfl, .inr ⟨j, rfl, by rw [HN.out]; exact hlt, by rw [← HX.out]; exact beq_iff_eq.1 HB.out.symm, hF.out⟩, HO.out.trans HO1.out (fun _ _ h => h)⟩
      | false =>
        go_wp2_with (go_at_call 53; (refine HCL.out.mono ?_); rintro e w1 ⟨rfl, hO1⟩; have HO1 := Lib.hid hO1; clear hO1)
        go_roundw
        case rel =>
          refine ⟨j + 1, by omega, by go_num, HO.out.trans HO1.out (fun _ _ h => h), ?_⟩
          intro i hi
          rcases Nat.lt_or_ge i j with h1 | h1
          · exact hF.out i h1
          · rw [show i = j by omega, ← HX.out]; exact beq_eq_false_iff_ne.1 HB.out.symm
        case measure => simp [intOf]; omega
    · go_wp2
      go_ret
      exact ⟨_, rfl, .inl ⟨rfl, fun i hi => hF.out i (by have := HN.out; omega)⟩, HO.out⟩
set_option maxRecDepth 100000 in
theorem indexFunc55 {w : World} {ao : Option Addr} {n cap g : Nat} {l : List Run} (hn : l.length = n) (hao : 0 < n → ao = some ⟨g, 0, none⟩) (hcap : n ≤ cap) (hmax : cap ≤ 9223372036854775807) (hr : RunsAt w g l) (id : Int) (gs : Nat) (hc : w.cell? ⟨gs, 0, none⟩ = some (.int .i64 id)) (hgs : gs < w.heap.size) :
    Calls Try.prog 52 #[.slice ao n cap, .func (.func 55) #[] #[.pointer (some ⟨gs, 0, none⟩)]] w fun e w' => ∃ k, e = .returned (.int .i64 k) ∧ FindI l id k ∧ Only (fun _ => False) w w' := by
  have HN := Lib.hid hn
  have HA := Lib.hid hao
  have HR := Lib.hid hr
  have HC := Lib.hid hc
  clear hn hao hr hc
  go_enter Try.func52, Try.ntmps52
  go_wp2
  go_loopw [5, 8] (fun _ i wr => ∃ j : Nat, j ≤ n ∧ i = .int .i64 j ∧ Only (fun _ => False) w wr ∧ Hid (∀ i, i < j → ((runAt l i).id : Int) ≠ id)) (fun _ i _ => n - (intOf i).toNat)
  case atStart => exact ⟨0, Nat.zero_le _, rfl, Only.refl _ _, fun i hi => absurd hi (Nat.not_lt_zero _)⟩
  case round =>
    obtain ⟨j, hj, rfl, hO, hF⟩ := hrel
    have HO := Lib.hid hO
    clear hO
    by_cases hlt : j < n
    · have ea := HA.out (by omega)
      subst ea
      have hjl : j < l.length := by rw [HN.out]; exact hlt
      obtain ⟨a0, a1⟩ := (HR.out.only HO.out (fun h => h)).at_ j hjl
      have hcr := (World.cell?_of_block (a := ⟨gs, 0, none⟩) (HO.out.block gs hgs (fun h => h))).trans HC.out
      have hgr : gs < wr.heap.size := Nat.lt_of_lt_of_le hgs HO.out.size
      obtain ⟨x, hx⟩ : ∃ x, x = runAt l j := ⟨_, rfl⟩
      rw [← hx] at a0 a1
      have HX := Lib.hid hx
      have HCR := Lib.hid hcr
      clear hx hcr hjl
      obtain ⟨b, hb⟩ : ∃ b, b = ((x.id : Int) == id) := ⟨_, rfl⟩
      have hcl := clos55 x id gs HCR.out hgr
      rw [← hb] at hcl
      have HCL := Lib.hid hcl
      have HB := Lib.hid hb
      clear hcl hb
      cases b with
      | true =>
        go_wp2_with (go_at_call 55; (refine HCL.out.mono ?_); rintro e w1 ⟨rfl, hO1⟩; have HO1 := Lib.hid hO1; clear hO1)
        go_ret
        exact ⟨_, rfl, .inr ⟨j, rfl, by rw [HN.out]; exact hlt, by rw [← HX.out]; exact beq_iff_eq.1 HB.out.symm, hF.out⟩, HO.out.trans HO1.out (fun _ _ h => h)⟩
      | false =>
        go_wp2_with (go_at_call 55; (refine HCL.out.mono ?_); rintro e w1 ⟨rfl, hO1⟩; have HO1 := Lib.hid hO1; clear hO1)
        go_roundw
        case rel =>
          refine ⟨j + 1, by omega, by go_num, HO.out.trans HO1.out (fun _ _ h => h), ?_⟩
          intro i hi
          rcases Nat.lt_or_ge i j with h1 | h1
          · exact hF.out i h1
          · rw [show i = j by omega, ← HX.out]; exact beq_eq_false_iff_ne.1 HB.out.symm
        case measure => simp [intOf]; omega
    · go_wp2
      go_ret
      exact ⟨_, rfl, .inl ⟨rfl, fun i hi => hF.out i (by have := HN.out; omega)⟩, HO.out⟩
end Go.Proofs.Ytlcblfkmadjppaa
