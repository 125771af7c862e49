/- timers.less. -/
import Derived.Test.YtbbihkddogbicaaBase
namespace Go.Proofs.Ytbbihkddogbicaa
open Go.RowKit
set_option linter.unusedVariables false

theorem less_any {w : World} {p g cap : Nat} {h : List Tm} {C : List Value} (H : Hp w p g cap h C) (a b : Nat) (ha : a < h.length) (hb : b < h.length) :
    Calls Try.prog 27 #[.pointer (some ⟨p, 0, none⟩), .int .i64 a, .int .i64 b] w fun e w' => e = .returned (.bool (decide (lt (nth_ h a) (nth_ h b)))) ∧ Only (fun _ => False) w w' := by
  obtain ⟨a0, a1, a2, a3⟩ := H.cells ha
  obtain ⟨b0, b1, b2, b3⟩ := H.cells hb
  have hf := H.fld
  have hle := H.le
  have hmx := H.max
  generalize nth_ h a = x at *
  generalize nth_ h b = y at *
  have HH := Lib.hid H
  clear H
  go_enter Try.func27, Try.ntmps27
  go_wp2
  go_region_held3 (fun w' => w'.cell? ⟨p, 1, none⟩ = some (.slice (some ⟨g, 0, none⟩) h.length cap) ∧ w'.cell? ⟨g, a * 4, none⟩ = some (.int .i64 x.at_) ∧ w'.cell? ⟨g, a * 4 + 1, none⟩ = some (.int .i64 x.nth) ∧ w'.cell? ⟨g, a * 4 + 2, none⟩ = some (.int .i64 x.key) ∧ w'.cell? ⟨g, a * 4 + 3, none⟩ = some (.int .i64 x.slot) ∧ w'.cell? ⟨g, b * 4, none⟩ = some (.int .i64 y.at_) ∧ w'.cell? ⟨g, b * 4 + 1, none⟩ = some (.int .i64 y.nth) ∧ w'.cell? ⟨g, b * 4 + 2, none⟩ = some (.int .i64 y.key) ∧ w'.cell? ⟨g, b * 4 + 3, none⟩ = some (.int .i64 y.slot)) (go_keep) (fail)
  all_goals
    rcases (show (x.at_ < y.at_) ∨ (x.at_ = y.at_ ∧ x.nth < y.nth) ∨ (x.at_ = y.at_ ∧ y.nth ≤ x.nth) ∨ y.at_ < x.at_ by omega) with h1 | ⟨h1, h2⟩ | ⟨h1, h2⟩ | h1
    · have e : decide (lt x y) = true := decide_eq_true (by unfold lt; omega)
      have E := Lib.hid e
      clear e
      go_wp2
      go_ret
      exact ⟨ret_bool E.out.symm, (((Only.refl _ _).alloc _).alloc _).drew⟩
    · have e : decide (lt x y) = true := decide_eq_true (by unfold lt; omega)
      have E := Lib.hid e
      have f1 : decide (x.at_ < y.at_) = false := decide_eq_false (by omega)
      have f2 : (x.at_ == y.at_) = true := beq_iff_eq.2 h1
      have H1 := Lib.hid h1
      clear e h1
      go_wp2
      go_ret
      exact ⟨ret_bool E.out.symm, (((Only.refl _ _).alloc _).alloc _).drew⟩
    · have e : decide (lt x y) = false := decide_eq_false (by unfold lt; omega)
      have E := Lib.hid e
      have f1 : decide (x.at_ < y.at_) = false := decide_eq_false (by omega)
      have f2 : (x.at_ == y.at_) = true := beq_iff_eq.2 h1
      have H1 := Lib.hid h1
      clear e h1
      go_wp2
      go_ret
      exact ⟨ret_bool (by rw [E.out]; exact decide_eq_false (by omega)), (((Only.refl _ _).alloc _).alloc _).drew⟩
    · have e : decide (lt x y) = false := decide_eq_false (by unfold lt; omega)
      have E := Lib.hid e
      have f1 : decide (x.at_ < y.at_) = false := decide_eq_false (by omega)
      have f2 : (x.at_ == y.at_) = false := beq_eq_false_iff_ne.2 (by omega)
      clear e
      go_wp2
      go_ret
      exact ⟨ret_bool E.out.symm, (((Only.refl _ _).alloc _).alloc _).drew⟩
end Go.Proofs.Ytbbihkddogbicaa
