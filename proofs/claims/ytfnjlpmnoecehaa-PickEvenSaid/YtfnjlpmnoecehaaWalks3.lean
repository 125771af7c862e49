/- The reference's Pick. -/
import Derived.Test.YtfnjlpmnoecehaaWalks2
namespace Go.Proofs.Ytfnjlpmnoecehaa
open Go.RowKit
set_option linter.unusedVariables false

set_option maxRecDepth 100000 in
set_option maxHeartbeats 800000 in
theorem refpick_any (ad : Option Addr) (len cap : Nat) (zs : List Int) (a b : Int) (w : World) (hmax : len ≤ 9223372036854775807) (hrow : Loads w ad len cap zs) :
    Calls Try.prog 10 #[.slice ad len cap, .int .i64 a, .int .i64 b] w fun e w' => e = .returned (.tuple #[.int .i64 (pickX len (zs.getD · 0) a b), .int .i64 (pickE len a b)]) ∧ Drawn w w' := by
  have HROW := Lib.hid hrow
  clear hrow
  obtain ⟨q1, q2, q3, q4⟩ := @pick_short len (zs.getD · 0) a b
  by_cases h0 : len = 0
  · obtain ⟨e1, e2⟩ := q1 h0
    rw [e1, e2]
    clear q1 q2 q3 q4 e1 e2
    subst h0
    go_enter Try.func10, Try.ntmps10
    go_wp2_with fail
    go_ret2
    exact ⟨rfl, Drawn.refl _⟩
  · by_cases h16 : 16 < len
    · obtain ⟨e1, e2⟩ := q2 h16
      rw [e1, e2]
      clear q1 q2 q3 q4 e1 e2
      go_enter Try.func10, Try.ntmps10
      go_wp2_with fail
      go_ret2
      exact ⟨rfl, Drawn.refl _⟩
    · by_cases hd : isDraw a ∧ isDraw b
      · have da : decide (isDraw a) = true := decide_eq_true hd.1
        have db : decide (isDraw b) = true := decide_eq_true hd.2
        by_cases h1 : len = 1
        · obtain ⟨e1, e2⟩ := q4 h1 hd.1 hd.2
          rw [e1, e2]
          clear q1 q2 q3 q4 e1 e2 hd
          subst h1
          go_enter Try.func10, Try.ntmps10
          go_wp2_with (first
            | (go_at_call_of 13 (Value.int IntKind.i64 a); (with_reducible refine (refdraw_any a _).mono ?_); rintro e w' ⟨rfl, rfl⟩)
            | (go_at_call_of 13 (Value.int IntKind.i64 b); (with_reducible refine (refdraw_any b _).mono ?_); rintro e w' ⟨rfl, rfl⟩))
          go_ret2
          exact ⟨rfl, Drawn.refl _⟩
        · have ex := Lib.hid (pickX_two (f := (zs.getD · 0)) (show 2 ≤ len by omega) (by omega) hd.1 hd.2)
          have ee := Lib.hid (pickE_two (show 1 ≤ len by omega) (by omega) hd.1 hd.2)
          have HD := Lib.hid hd
          clear q1 q2 q3 q4 hd
          obtain ⟨g, off, rfl, hr⟩ := HROW.out (by omega)
          have hI := tI_facts (n := len) (a := a) (by omega)
          have hJ := tJ_facts (n := len) (a := a) (b := b) (by omega)
          obtain ⟨i, hi⟩ := Int.eq_ofNat_of_zero_le hI.1
          obtain ⟨j, hj⟩ := Int.eq_ofNat_of_zero_le hJ.1
          rw [hi] at hI hJ
          rw [hj] at hJ
          have hne : i ≠ j := by have := hJ.2.2; omega
          have hi1 : i < len := by omega
          have hj1 : j < len := by omega
          clear hI hJ
          have Hi := Lib.hid hi
          have Hj := Lib.hid hj
          clear hi hj
          have c1 := hr.cell i hi1
          have c2 := hr.cell j hj1
          clear hr
          have fin : pickX len (zs.getD · 0) a b = if zs.getD (min i j) 0 > zs.getD (max i j) 0 then ((max i j : Nat) : Int) else ((min i j : Nat) : Int) := by
            rw [ex.out, Hi.out, Hj.out, show (min (i : Int) (j : Int)) = ((min i j : Nat) : Int) by omega, show (max (i : Int) (j : Int)) = ((max i j : Nat) : Int) by omega]
            simp only [Int.toNat_natCast]
          obtain ⟨x, hx⟩ : ∃ x, x = zs.getD i 0 := ⟨_, rfl⟩
          obtain ⟨y, hy⟩ : ∃ y, y = zs.getD j 0 := ⟨_, rfl⟩
          rw [← hx] at c1
          rw [← hy] at c2
          have FIN := Lib.hid fin
          have Hx := Lib.hid hx
          have Hy := Lib.hid hy
          clear fin hx hy ex
          rw [ee.out]
          rcases (show (y < x) ∨ (¬ y < x ∧ x < y) ∨ (y = x ∧ j < i) ∨ (y = x ∧ i < j) by omega) with hxy | ⟨hxy, hyx⟩ | ⟨hxy, hji⟩ | ⟨hxy, hij⟩
          · have d1 : decide (y < x) = true := decide_eq_true hxy
            go_enter Try.func10, Try.ntmps10
            go_wp2_with (first
              | (go_at_call_of 13 (Value.int IntKind.i64 a); (with_reducible refine (refdraw_any a _).mono ?_); rintro e w' ⟨rfl, rfl⟩)
              | (go_at_call_of 13 (Value.int IntKind.i64 b); (with_reducible refine (refdraw_any b _).mono ?_); rintro e w' ⟨rfl, rfl⟩)
              | (go_at_call 8; (with_reducible refine (reftwo_ok _ a b _ (by omega) HD.out.1 HD.out.2).mono ?_); rintro e w' ⟨rfl, nd, rfl⟩; rw [Hi.out, Hj.out]))
            go_quiet (fail)
            go_wp2
            go_ret2
            refine ⟨ret_pair (congrArg (Value.int IntKind.i64) ?_) rfl, (Drawn.of w _).trans (Drawn.of _ _)⟩
            rw [FIN.out]
            rcases (show i < j ∨ j < i by omega) with hij | hij
            · rw [show max i j = j by omega, show min i j = i by omega, ← Hx.out, ← Hy.out, if_pos (by omega)]
            · rw [show max i j = i by omega, show min i j = j by omega, ← Hx.out, ← Hy.out, if_neg (by omega)]
          · have d1 : decide (y < x) = false := decide_eq_false hxy
            have d2 : (y == x) = false := beq_eq_false_iff_ne.2 (by omega)
            go_enter Try.func10, Try.ntmps10
            go_wp2_with (first
              | (go_at_call_of 13 (Value.int IntKind.i64 a); (with_reducible refine (refdraw_any a _).mono ?_); rintro e w' ⟨rfl, rfl⟩)
              | (go_at_call_of 13 (Value.int IntKind.i64 b); (with_reducible refine (refdraw_any b _).mono ?_); rintro e w' ⟨rfl, rfl⟩)
              | (go_at_call 8; (with_reducible refine (reftwo_ok _ a b _ (by omega) HD.out.1 HD.out.2).mono ?_); rintro e w' ⟨rfl, nd, rfl⟩; rw [Hi.out, Hj.out]))
            go_quiet (fail)
            go_wp2
            go_ret2
            refine ⟨ret_pair (congrArg (Value.int IntKind.i64) ?_) rfl, (Drawn.of w _).trans (Drawn.of _ _)⟩
            rw [FIN.out]
            rcases (show i < j ∨ j < i by omega) with hij | hij
            · rw [show max i j = j by omega, show min i j = i by omega, ← Hx.out, ← Hy.out, if_neg (by omega)]
            · rw [show max i j = i by omega, show min i j = j by omega, ← Hx.out, ← Hy.out, if_pos (by omega)]
          · subst hxy
            have d1 : decide (y < y) = false := decide_eq_false (by omega)
            have d2 : (y == y) = true := beq_iff_eq.2 rfl
            have d3 : decide ((j : Int) < (i : Int)) = true := decide_eq_true (by omega)
            go_enter Try.func10, Try.ntmps10
            go_wp2_with (first
              | (go_at_call_of 13 (Value.int IntKind.i64 a); (with_reducible refine (refdraw_any a _).mono ?_); rintro e w' ⟨rfl, rfl⟩)
              | (go_at_call_of 13 (Value.int IntKind.i64 b); (with_reducible refine (refdraw_any b _).mono ?_); rintro e w' ⟨rfl, rfl⟩)
              | (go_at_call 8; (with_reducible refine (reftwo_ok _ a b _ (by omega) HD.out.1 HD.out.2).mono ?_); rintro e w' ⟨rfl, nd, rfl⟩; rw [Hi.out, Hj.out]))
            go_quiet (fail)
            go_wp2
            go_ret2
            refine ⟨ret_pair (congrArg (Value.int IntKind.i64) ?_) rfl, (Drawn.of w _).trans (Drawn.of _ _)⟩
            rw [FIN.out, show max i j = i by omega, show min i j = j by omega, ← Hx.out, ← Hy.out, if_neg (by omega)]
          · subst hxy
            have d1 : decide (y < y) = false := decide_eq_false (by omega)
            have d2 : (y == y) = true := beq_iff_eq.2 rfl
            have d3 : decide ((j : Int) < (i : Int)) = false := decide_eq_false (by omega)
            go_enter Try.func10, Try.ntmps10
            go_wp2_with (first
              | (go_at_call_of 13 (Value.int IntKind.i64 a); (with_reducible refine (refdraw_any a _).mono ?_); rintro e w' ⟨rfl, rfl⟩)
              | (go_at_call_of 13 (Value.int IntKind.i64 b); (with_reducible refine (refdraw_any b _).mono ?_); rintro e w' ⟨rfl, rfl⟩)
              | (go_at_call 8; (with_reducible refine (reftwo_ok _ a b _ (by omega) HD.out.1 HD.out.2).mono ?_); rintro e w' ⟨rfl, nd, rfl⟩; rw [Hi.out, Hj.out]))
            go_quiet (fail)
            go_wp2
            go_ret2
            refine ⟨ret_pair (congrArg (Value.int IntKind.i64) ?_) rfl, (Drawn.of w _).trans (Drawn.of _ _)⟩
            rw [FIN.out, show max i j = j by omega, show min i j = i by omega, ← Hx.out, ← Hy.out, if_neg (by omega)]
      · obtain ⟨e1, e2⟩ := q3 h0 h16 hd
        rw [e1, e2]
        clear q1 q2 q3 q4 e1 e2
        by_cases ha : isDraw a
        · have da : decide (isDraw a) = true := decide_eq_true ha
          have db : decide (isDraw b) = false := decide_eq_false (fun hb => hd ⟨ha, hb⟩)
          clear ha hd
          go_enter Try.func10, Try.ntmps10
          go_wp2_with (first
            | (go_at_call_of 13 (Value.int IntKind.i64 a); (with_reducible refine (refdraw_any a _).mono ?_); rintro e w' ⟨rfl, rfl⟩)
            | (go_at_call_of 13 (Value.int IntKind.i64 b); (with_reducible refine (refdraw_any b _).mono ?_); rintro e w' ⟨rfl, rfl⟩))
          go_ret2
          exact ⟨rfl, Drawn.refl _⟩
        · have da : decide (isDraw a) = false := decide_eq_false ha
          clear ha hd
          go_enter Try.func10, Try.ntmps10
          go_wp2_with (first
            | (go_at_call_of 13 (Value.int IntKind.i64 a); (with_reducible refine (refdraw_any a _).mono ?_); rintro e w' ⟨rfl, rfl⟩))
          go_ret2
          exact ⟨rfl, Drawn.refl _⟩
end Go.Proofs.Ytfnjlpmnoecehaa
