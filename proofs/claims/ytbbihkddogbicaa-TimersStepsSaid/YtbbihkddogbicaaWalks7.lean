/- timers.find. -/
import Derived.Test.YtbbihkddogbicaaWalks6
namespace Go.Proofs.Ytbbihkddogbicaa
open Go.RowKit
set_option linter.unusedVariables false
set_option linter.unusedSimpArgs false

abbrev tmV (t : Tm) : Value := .agg #[.int .i64 t.at_, .int .i64 t.nth, .int .i64 t.key, .int .i64 t.slot]

theorem clos_yes {w : World} (t : Tm) (s gs : Nat) (hc : w.cell? ⟨gs, 0, none⟩ = some (.int .i64 s)) (hg : gs < w.heap.size) (h : t.slot = s) :
    Calls Try.prog 36 #[tmV t, .pointer (some ⟨gs, 0, none⟩)] w fun e w' => e = .returned (.bool true) ∧ Only (fun _ => False) w w' := by
  subst h
  have hn : gs ≠ w.heap.size := by omega
  go_enter Try.func36, Try.ntmps36
  go_wp2
  go_ret
  exact ⟨rfl, (Only.refl _ _).alloc _⟩
theorem clos_no {w : World} (t : Tm) (s gs : Nat) (hc : w.cell? ⟨gs, 0, none⟩ = some (.int .i64 s)) (hg : gs < w.heap.size) (h : t.slot ≠ s) :
    Calls Try.prog 36 #[tmV t, .pointer (some ⟨gs, 0, none⟩)] w fun e w' => e = .returned (.bool false) ∧ Only (fun _ => False) w w' := by
  have hn : gs ≠ w.heap.size := by omega
  have h1 : ((t.slot : Int) == (s : Int)) = false := beq_eq_false_iff_ne.2 (by omega)
  have h2 : (t.slot == s) = false := beq_eq_false_iff_ne.2 h
  go_enter Try.func36, Try.ntmps36
  go_wp2
  go_ret
  exact ⟨ret_bool (by first | rfl | exact decide_eq_false h | exact h2), (Only.refl _ _).alloc _⟩

/-- The slice's cells, wherever the slice is kept. -/
theorem indexFunc_any {w : World} {p g cap : Nat} {h : List Tm} {C : List Value} (H : Hp w p g cap h C) (s gs : Nat) (hc : w.cell? ⟨gs, 0, none⟩ = some (.int .i64 s)) (hgs : gs < w.heap.size) (k : Nat) (hk : k < h.length) (h0 : ∀ i, i < k → (nth_ h i).slot ≠ s) (h1 : (nth_ h k).slot = s) :
    Calls Try.prog 35 #[.slice (some ⟨g, 0, none⟩) h.length cap, .func (.func 36) #[] #[.pointer (some ⟨gs, 0, none⟩)]] w fun e w' => e = .returned (.int .i64 k) ∧ Only (fun _ => False) w w' := by
  have hle := H.le
  have hmx := H.max
  have HH := Lib.hid H
  have H0 := Lib.hid h0
  have H1 := Lib.hid h1
  have HC := Lib.hid hc
  clear H h0 h1 hc
  go_enter Try.func35, Try.ntmps35
  go_wp2
  go_loopw [5, 8] (fun _ i wr => ∃ j : Nat, j ≤ k ∧ i = .int .i64 j ∧ Only (fun _ => False) w wr) (fun _ i _ => h.length - (intOf i).toNat)
  case atStart => exact ⟨0, Nat.zero_le _, rfl, Only.refl _ _⟩
  case round =>
    obtain ⟨j, hj, rfl, hO⟩ := hrel
    have hH := HH.out.only hO id id
    have hcr := (World.cell?_of_block (a := ⟨gs, 0, none⟩) (hO.block gs hgs id)).trans HC.out
    have hgr : gs < wr.heap.size := Nat.lt_of_lt_of_le hgs hO.size
    have hjl : j < h.length := by omega
    obtain ⟨a0, a1, a2, a3⟩ := hH.cells hjl
    obtain ⟨x, hx⟩ : ∃ x, x = nth_ h j := ⟨_, rfl⟩
    rw [← hx] at a0 a1 a2 a3
    have HX := Lib.hid hx
    have HO := Lib.hid hO
    have HCR := Lib.hid hcr
    clear hx hO hH hcr
    by_cases hjk : j = k
    · have hxs : x.slot = s := by rw [HX.out, hjk]; exact H1.out
      have HXS := Lib.hid hxs
      have HJ := Lib.hid hjk
      clear hxs hjk
      go_wp2_with (go_at_call 36; (with_reducible refine (clos_yes x s gs HCR.out hgr HXS.out).mono ?_); rintro e w1 ⟨rfl, hO1⟩; have HO1 := Lib.hid hO1; clear hO1)
      go_ret
      exact ⟨ret_int (by rw [HJ.out]), HO.out.trans HO1.out (fun _ _ h => h)⟩
    · have hxs : x.slot ≠ s := by rw [HX.out]; exact H0.out j (by omega)
      have HXS := Lib.hid hxs
      clear hxs
      go_wp2_with (go_at_call 36; (with_reducible refine (clos_no x s gs HCR.out hgr HXS.out).mono ?_); rintro e w1 ⟨rfl, hO1⟩; have HO1 := Lib.hid hO1; clear hO1)
      go_roundw
      case rel => exact ⟨j + 1, by omega, by go_num, HO.out.trans HO1.out (fun _ _ h => h)⟩
      case measure => simp [intOf]; omega
end Go.Proofs.Ytbbihkddogbicaa
