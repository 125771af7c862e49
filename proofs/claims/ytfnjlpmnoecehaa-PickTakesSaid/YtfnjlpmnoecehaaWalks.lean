/- The functions of package pick and of its reference, one contract each. -/
import Derived.Test.YtfnjlpmnoecehaaProg
import Derived.Test.YtfnjlpmnoecehaaLib
import Derived.RegionTactic
import Derived.BigRegion
import Derived.BigQuiet
import Derived.Deep.QuietTactic
import Derived.StillTailTactics
import Derived.Deep.RegionWith
import Derived.LoopTactic
import Derived.KernelRfl
namespace Go.Proofs.Ytfnjlpmnoecehaa
open Go.RowKit
set_option linter.unusedVariables false

def isDraw (a : Int) : Prop := 0 ≤ a ∧ a < 4294967296
instance (a : Int) : Decidable (isDraw a) := inferInstanceAs (Decidable (_ ∧ _))
def twoOk (n a b : Int) : Prop := (2 ≤ n ∧ n ≤ 16) ∧ isDraw a ∧ isDraw b
instance (n a b : Int) : Decidable (twoOk n a b) := inferInstanceAs (Decidable (_ ∧ _))
def tI (n a : Int) : Int := a % n
def tJ (n a b : Int) : Int := if a % n ≤ b % (n - 1) then b % (n - 1) + 1 else b % (n - 1)
/-- What Two tells. -/
def twoI (n a b : Int) : Int := if twoOk n a b then tI n a else 0
def twoJ (n a b : Int) : Int := if twoOk n a b then tJ n a b else 0
def twoE (n a b : Int) : Int := if twoOk n a b then 0 else 1

theorem emod_facts (a n : Int) (hn : 1 ≤ n) : 0 ≤ a % n ∧ a % n < n := ⟨Int.emod_nonneg _ (by omega), Int.emod_lt_of_pos _ (by omega)⟩
theorem tI_facts {n a : Int} (hn : 2 ≤ n) : 0 ≤ tI n a ∧ tI n a < n := emod_facts a n (by omega)
theorem tJ_facts {n a b : Int} (hn : 2 ≤ n) : 0 ≤ tJ n a b ∧ tJ n a b < n ∧ tJ n a b ≠ tI n a := by
  have h1 := emod_facts a n (by omega)
  have h2 := emod_facts b (n - 1) (by omega)
  unfold tJ tI
  split <;> omega

theorem draw_any (n : Int) (w : World) : Calls Try.prog 12 #[.int .i64 n] w fun e w' => e = .returned (.bool (decide (isDraw n))) ∧ w = w' := by
  by_cases h0 : n < 0
  · have E := Lib.hid (show decide (isDraw n) = false from decide_eq_false (by unfold isDraw; omega))
    go_enter Try.func12, Try.ntmps12
    go_wp2
    go_ret
    exact ⟨ret_bool (by rw [E.out]; try (first | (simp; done) | (simp; omega))), rfl⟩
  · by_cases h1 : n < 4294967296
    · have E := Lib.hid (show decide (isDraw n) = true from decide_eq_true (by unfold isDraw; omega))
      go_enter Try.func12, Try.ntmps12
      go_wp2
      go_ret
      exact ⟨ret_bool (by rw [E.out]; try (first | (simp; done) | (simp; omega))), rfl⟩
    · have E := Lib.hid (show decide (isDraw n) = false from decide_eq_false (by unfold isDraw; omega))
      go_enter Try.func12, Try.ntmps12
      go_wp2
      go_ret
      exact ⟨ret_bool (by rw [E.out]; try (first | (simp; done) | (simp; omega))), rfl⟩
theorem refdraw_any (n : Int) (w : World) : Calls Try.prog 13 #[.int .i64 n] w fun e w' => e = .returned (.bool (decide (isDraw n))) ∧ w = w' := by
  by_cases h0 : n < 0
  · have E := Lib.hid (show decide (isDraw n) = false from decide_eq_false (by unfold isDraw; omega))
    go_enter Try.func13, Try.ntmps13
    go_wp2
    go_ret
    exact ⟨ret_bool (by rw [E.out]; try (first | (simp; done) | (simp; omega))), rfl⟩
  · by_cases h1 : n < 4294967296
    · have E := Lib.hid (show decide (isDraw n) = true from decide_eq_true (by unfold isDraw; omega))
      go_enter Try.func13, Try.ntmps13
      go_wp2
      go_ret
      exact ⟨ret_bool (by rw [E.out]; try (first | (simp; done) | (simp; omega))), rfl⟩
    · have E := Lib.hid (show decide (isDraw n) = false from decide_eq_false (by unfold isDraw; omega))
      go_enter Try.func13, Try.ntmps13
      go_wp2
      go_ret
      exact ⟨ret_bool (by rw [E.out]; try (first | (simp; done) | (simp; omega))), rfl⟩

theorem two_any (n a b : Int) (w : World) :
    Calls Try.prog 7 #[.int .i64 n, .int .i64 a, .int .i64 b] w fun e w' => e = .returned (.tuple #[.int .i64 (twoI n a b), .int .i64 (twoJ n a b), .int .i64 (twoE n a b)]) ∧ Drawn w w' := by
  by_cases hok : twoOk n a b
  · have fin : twoI n a b = tI n a ∧ twoJ n a b = tJ n a b ∧ twoE n a b = 0 := ⟨if_pos hok, if_pos hok, if_pos hok⟩
    have FIN := Lib.hid fin
    clear fin
    obtain ⟨⟨hn0, hn1⟩, ha, hb⟩ := hok
    have da : decide (isDraw a) = true := decide_eq_true ha
    have db : decide (isDraw b) = true := decide_eq_true hb
    have ha0 := ha.1
    have ha1 := ha.2
    have hb0 := hb.1
    have hb1 := hb.2
    have m1 := emod_facts a n (by omega)
    have m2 := emod_facts b (n - 1) (by omega)
    clear ha hb
    by_cases hij : a % n ≤ b % (n - 1)
    all_goals
      go_enter Try.func7, Try.ntmps7
      go_wp2_with (first
        | (go_at_call_of 12 (Value.int IntKind.i64 a); (with_reducible refine (draw_any a _).mono ?_); rintro e w' ⟨rfl, rfl⟩)
        | (go_at_call_of 12 (Value.int IntKind.i64 b); (with_reducible refine (draw_any b _).mono ?_); rintro e w' ⟨rfl, rfl⟩))
      go_quiet (fail)
      go_wp2
      go_ret3
      rw [FIN.out.1, FIN.out.2.1, FIN.out.2.2]
      unfold tI tJ
      first | rw [if_pos (by omega)] | rw [if_neg (by omega)]
      exact ⟨rfl, Drawn.of _ _⟩
  · have fin : twoI n a b = 0 ∧ twoJ n a b = 0 ∧ twoE n a b = 1 := ⟨if_neg hok, if_neg hok, if_neg hok⟩
    have FIN := Lib.hid fin
    have HOK := Lib.hid hok
    clear fin hok
    by_cases hn0 : n < 2
    · go_enter Try.func7, Try.ntmps7
      go_wp2_with fail
      go_ret3
      rw [FIN.out.1, FIN.out.2.1, FIN.out.2.2]
      exact ⟨rfl, Drawn.refl _⟩
    · by_cases hn1 : 16 < n
      · go_enter Try.func7, Try.ntmps7
        go_wp2_with fail
        go_ret3
        rw [FIN.out.1, FIN.out.2.1, FIN.out.2.2]
        exact ⟨rfl, Drawn.refl _⟩
      · by_cases ha : isDraw a
        · have hb : ¬ isDraw b := fun hb => HOK.out ⟨⟨by omega, by omega⟩, ha, hb⟩
          have da : decide (isDraw a) = true := decide_eq_true ha
          have db : decide (isDraw b) = false := decide_eq_false hb
          clear ha hb
          go_enter Try.func7, Try.ntmps7
          go_wp2_with (first
            | (go_at_call_of 12 (Value.int IntKind.i64 a); (with_reducible refine (draw_any a _).mono ?_); rintro e w' ⟨rfl, rfl⟩)
            | (go_at_call_of 12 (Value.int IntKind.i64 b); (with_reducible refine (draw_any b _).mono ?_); rintro e w' ⟨rfl, rfl⟩))
          go_ret3
          rw [FIN.out.1, FIN.out.2.1, FIN.out.2.2]
          exact ⟨rfl, Drawn.refl _⟩
        · have da : decide (isDraw a) = false := decide_eq_false ha
          clear ha
          go_enter Try.func7, Try.ntmps7
          go_wp2_with (first
            | (go_at_call_of 12 (Value.int IntKind.i64 a); (with_reducible refine (draw_any a _).mono ?_); rintro e w' ⟨rfl, rfl⟩))
          go_ret3
          rw [FIN.out.1, FIN.out.2.1, FIN.out.2.2]
          exact ⟨rfl, Drawn.refl _⟩

theorem reftwo_any (n a b : Int) (w : World) :
    Calls Try.prog 8 #[.int .i64 n, .int .i64 a, .int .i64 b] w fun e w' => e = .returned (.tuple #[.int .i64 (twoI n a b), .int .i64 (twoJ n a b), .int .i64 (twoE n a b)]) ∧ Drawn w w' := by
  by_cases hok : twoOk n a b
  · have fin : twoI n a b = tI n a ∧ twoJ n a b = tJ n a b ∧ twoE n a b = 0 := ⟨if_pos hok, if_pos hok, if_pos hok⟩
    have FIN := Lib.hid fin
    clear fin
    obtain ⟨⟨hn0, hn1⟩, ha, hb⟩ := hok
    have da : decide (isDraw a) = true := decide_eq_true ha
    have db : decide (isDraw b) = true := decide_eq_true hb
    have ha0 := ha.1
    have ha1 := ha.2
    have hb0 := hb.1
    have hb1 := hb.2
    have m1 := emod_facts a n (by omega)
    have m2 := emod_facts b (n - 1) (by omega)
    clear ha hb
    by_cases hij : a % n ≤ b % (n - 1)
    all_goals
      go_enter Try.func8, Try.ntmps8
      go_wp2_with (first
        | (go_at_call_of 13 (Value.int IntKind.i64 a); (with_reducible refine (refdraw_any a _).mono ?_); rintro e w' ⟨rfl, rfl⟩)
        | (go_at_call_of 13 (Value.int IntKind.i64 b); (with_reducible refine (refdraw_any b _).mono ?_); rintro e w' ⟨rfl, rfl⟩))
      go_ret3
      rw [FIN.out.1, FIN.out.2.1, FIN.out.2.2]
      unfold tI tJ
      first | rw [if_pos (by omega)] | rw [if_neg (by omega)]
      exact ⟨rfl, Drawn.refl _⟩
  · have fin : twoI n a b = 0 ∧ twoJ n a b = 0 ∧ twoE n a b = 1 := ⟨if_neg hok, if_neg hok, if_neg hok⟩
    have FIN := Lib.hid fin
    have HOK := Lib.hid hok
    clear fin hok
    by_cases hn0 : n < 2
    · go_enter Try.func8, Try.ntmps8
      go_wp2_with fail
      go_ret3
      rw [FIN.out.1, FIN.out.2.1, FIN.out.2.2]
      exact ⟨rfl, Drawn.refl _⟩
    · by_cases hn1 : 16 < n
      · go_enter Try.func8, Try.ntmps8
        go_wp2_with fail
        go_ret3
        rw [FIN.out.1, FIN.out.2.1, FIN.out.2.2]
        exact ⟨rfl, Drawn.refl _⟩
      · by_cases ha : isDraw a
        · have hb : ¬ isDraw b := fun hb => HOK.out ⟨⟨by omega, by omega⟩, ha, hb⟩
          have da : decide (isDraw a) = true := decide_eq_true ha
          have db : decide (isDraw b) = false := decide_eq_false hb
          clear ha hb
          go_enter Try.func8, Try.ntmps8
          go_wp2_with (first
            | (go_at_call_of 13 (Value.int IntKind.i64 a); (with_reducible refine (refdraw_any a _).mono ?_); rintro e w' ⟨rfl, rfl⟩)
            | (go_at_call_of 13 (Value.int IntKind.i64 b); (with_reducible refine (refdraw_any b _).mono ?_); rintro e w' ⟨rfl, rfl⟩))
          go_ret3
          rw [FIN.out.1, FIN.out.2.1, FIN.out.2.2]
          exact ⟨rfl, Drawn.refl _⟩
        · have da : decide (isDraw a) = false := decide_eq_false ha
          clear ha
          go_enter Try.func8, Try.ntmps8
          go_wp2_with (first
            | (go_at_call_of 13 (Value.int IntKind.i64 a); (with_reducible refine (refdraw_any a _).mono ?_); rintro e w' ⟨rfl, rfl⟩))
          go_ret3
          rw [FIN.out.1, FIN.out.2.1, FIN.out.2.2]
          exact ⟨rfl, Drawn.refl _⟩

end Go.Proofs.Ytfnjlpmnoecehaa
