/- pick.Pick and its reference. -/
import Derived.Test.YtfnjlpmnoecehaaWalks
namespace Go.Proofs.Ytfnjlpmnoecehaa
open Go.RowKit
set_option linter.unusedVariables false

/-- What Pick tells of these loads: n of them, f tells each. -/
def pickX (n : Nat) (f : Nat → Int) (a b : Int) : Int :=
  if n = 0 then 0 else if 16 < n then 0 else if ¬ (isDraw a ∧ isDraw b) then 0 else if n = 1 then 0
  else if f (min (tI n a) (tJ n a b)).toNat > f (max (tI n a) (tJ n a b)).toNat then max (tI n a) (tJ n a b) else min (tI n a) (tJ n a b)
def pickE (n : Nat) (a b : Int) : Int :=
  if n = 0 then 6 else if 16 < n then 2 else if ¬ (isDraw a ∧ isDraw b) then 1 else 0

theorem pickX_two {n : Nat} {f : Nat → Int} {a b : Int} (h1 : 2 ≤ n) (h2 : n ≤ 16) (ha : isDraw a) (hb : isDraw b) :
    pickX n f a b = if f (min (tI n a) (tJ n a b)).toNat > f (max (tI n a) (tJ n a b)).toNat then max (tI n a) (tJ n a b) else min (tI n a) (tJ n a b) := by
  unfold pickX
  rw [if_neg (by omega), if_neg (by omega), if_neg (by simp [ha, hb]), if_neg (by omega)]
theorem pickE_two {n : Nat} {a b : Int} (h1 : 1 ≤ n) (h2 : n ≤ 16) (ha : isDraw a) (hb : isDraw b) : pickE n a b = 0 := by
  unfold pickE
  rw [if_neg (by omega), if_neg (by omega), if_neg (by simp [ha, hb])]

/-- The cases that are over before two are drawn. -/
theorem pick_short {n : Nat} {f : Nat → Int} {a b : Int} :
    (n = 0 → pickX n f a b = 0 ∧ pickE n a b = 6) ∧ (16 < n → pickX n f a b = 0 ∧ pickE n a b = 2) ∧
    (¬ n = 0 → ¬ 16 < n → ¬ (isDraw a ∧ isDraw b) → pickX n f a b = 0 ∧ pickE n a b = 1) ∧ (n = 1 → isDraw a → isDraw b → pickX n f a b = 0 ∧ pickE n a b = 0) := by
  unfold pickX pickE
  refine ⟨fun h => ?_, fun h => ?_, fun h1 h2 h3 => ?_, fun h1 h2 h3 => ?_⟩
  · simp [h]
  · simp [h, show ¬ n = 0 by omega]
  · simp [h1, h2, h3]
  · subst h1; simp [h2, h3]

theorem two_ok (n a b : Int) (w : World) (hn : 2 ≤ n ∧ n ≤ 16) (ha : isDraw a) (hb : isDraw b) :
    Calls Try.prog 7 #[.int .i64 n, .int .i64 a, .int .i64 b] w fun e w' => e = .returned (.tuple #[.int .i64 (tI n a), .int .i64 (tJ n a b), .int .i64 0]) ∧ Drawn w w' := by
  have h := two_any n a b w
  have hok : twoOk n a b := ⟨hn, ha, hb⟩
  rw [show twoI n a b = tI n a from if_pos hok, show twoJ n a b = tJ n a b from if_pos hok, show twoE n a b = 0 from if_pos hok] at h
  exact h
theorem reftwo_ok (n a b : Int) (w : World) (hn : 2 ≤ n ∧ n ≤ 16) (ha : isDraw a) (hb : isDraw b) :
    Calls Try.prog 8 #[.int .i64 n, .int .i64 a, .int .i64 b] w fun e w' => e = .returned (.tuple #[.int .i64 (tI n a), .int .i64 (tJ n a b), .int .i64 0]) ∧ Drawn w w' := by
  have h := reftwo_any n a b w
  have hok : twoOk n a b := ⟨hn, ha, hb⟩
  rw [show twoI n a b = tI n a from if_pos hok, show twoJ n a b = tJ n a b from if_pos hok, show twoE n a b = 0 from if_pos hok] at h
  exact h

/-- What a walk is told of a slice of loads, in a world that has drawn since. -/
def Loads (w : World) (ad : Option Addr) (len cap : Nat) (zs : List Int) : Prop := 0 < len → ∃ g off, ad = some ⟨g, off, none⟩ ∧ RowAt .i64 w g off len cap zs
theorem Loads.drawn {w w' : World} {ad : Option Addr} {len cap : Nat} {zs : List Int} (h : Loads w ad len cap zs) (hd : Drawn w w') : Loads w' ad len cap zs := fun hl => by
  obtain ⟨g, off, e, hr⟩ := h hl
  exact ⟨g, off, e, hr.drawn hd⟩

set_option maxRecDepth 100000 in
set_option maxHeartbeats 800000 in
theorem pick_any (ad : Option Addr) (len cap : Nat) (zs : List Int) (a b : Int) (w : World) (hmax : len ≤ 9223372036854775807) (hrow : Loads w ad len cap zs) :
    Calls Try.prog 9 #[.slice ad len cap, .int .i64 a, .int .i64 b] w fun e w' => e = .returned (.tuple #[.int .i64 (pickX len (zs.getD · 0) a b), .int .i64 (pickE len a b)]) ∧ Drawn w w' := by
  have HROW := Lib.hid hrow
  clear hrow
  obtain ⟨q1, q2, q3, q4⟩ := @pick_short len (zs.getD · 0) a b
  by_cases h0 : len = 0
  · obtain ⟨e1, e2⟩ := q1 h0
    rw [e1, e2]
    clear q1 q2 q3 q4 e1 e2
    subst h0
    go_enter Try.func9, Try.ntmps9
    go_wp2_with fail
    go_ret2
    exact ⟨rfl, Drawn.refl _⟩
  · by_cases h16 : 16 < len
    · obtain ⟨e1, e2⟩ := q2 h16
      rw [e1, e2]
      clear q1 q2 q3 q4 e1 e2
      go_enter Try.func9, Try.ntmps9
      go_wp2_with fail
      go_ret2
      exact ⟨rfl, Drawn.refl _⟩
    · by_cases hd : isDraw a ∧ isDraw b
      · have da : decide (isDraw a) = true := decide_eq_true hd.1
        have db : decide (isDraw b) = true := decide_eq_true hd.2
        by_cases h1 : len = 1
        · obtain ⟨e1, e2⟩ := q4 h1 hd.1 hd.2
          rw [e1, e2]
          clear q1 q2 q3 q4 e1 e2 hd
          subst h1
          go_enter Try.func9, Try.ntmps9
          go_wp2_with (first
            | (go_at_call_of 12 (Value.int IntKind.i64 a); (with_reducible refine (draw_any a _).mono ?_); rintro e w' ⟨rfl, rfl⟩)
            | (go_at_call_of 12 (Value.int IntKind.i64 b); (with_reducible refine (draw_any b _).mono ?_); rintro e w' ⟨rfl, rfl⟩))
          go_ret2
          exact ⟨rfl, Drawn.refl _⟩
        · have ex := Lib.hid (pickX_two (f := (zs.getD · 0)) (show 2 ≤ len by omega) (by omega) hd.1 hd.2)
          have ee := Lib.hid (pickE_two (show 1 ≤ len by omega) (by omega) hd.1 hd.2)
          have HD := Lib.hid hd
          clear q1 q2 q3 q4 hd
          obtain ⟨g, off, rfl, hr⟩ := HROW.out (by omega)
          have hI := tI_facts (n := len) (a := a) (by omega)
          have hJ := tJ_facts (n := len) (a := a) (b := b) (by omega)
          obtain ⟨i, hi⟩ := Int.eq_ofNat_of_zero_le hI.1
          obtain ⟨j, hj⟩ := Int.eq_ofNat_of_zero_le hJ.1
          rw [hi] at hI hJ
          rw [hj] at hJ
          have hne : i ≠ j := by have := hJ.2.2; omega
          have hi1 : i < len := by omega
          have hj1 : j < len := by omega
          clear hI hJ
          have Hi := Lib.hid hi
          have Hj := Lib.hid hj
          clear hi hj
          have c1 := hr.cell i hi1
          have c2 := hr.cell j hj1
          clear hr
          have fin : pickX len (zs.getD · 0) a b = if zs.getD (min i j) 0 > zs.getD (max i j) 0 then ((max i j : Nat) : Int) else ((min i j : Nat) : Int) := by
            rw [ex.out, Hi.out, Hj.out, show (min (i : Int) (j : Int)) = ((min i j : Nat) : Int) by omega, show (max (i : Int) (j : Int)) = ((max i j : Nat) : Int) by omega]
            simp only [Int.toNat_natCast]
          obtain ⟨x, hx⟩ : ∃ x, x = zs.getD i 0 := ⟨_, rfl⟩
          obtain ⟨y, hy⟩ : ∃ y, y = zs.getD j 0 := ⟨_, rfl⟩
          rw [← hx] at c1
          rw [← hy] at c2
          have FIN := Lib.hid fin
          have Hx := Lib.hid hx
          have Hy := Lib.hid hy
          clear fin hx hy ex
          rw [ee.out]
          rcases (show (i < j ∧ y < x) ∨ (i < j ∧ ¬ y < x) ∨ (j < i ∧ x < y) ∨ (j < i ∧ ¬ x < y) by omega) with ⟨hij, hxy⟩ | ⟨hij, hxy⟩ | ⟨hij, hxy⟩ | ⟨hij, hxy⟩
          all_goals
            go_enter Try.func9, Try.ntmps9
            go_wp2_with (first
              | (go_at_call_of 12 (Value.int IntKind.i64 a); (with_reducible refine (draw_any a _).mono ?_); rintro e w' ⟨rfl, rfl⟩)
              | (go_at_call_of 12 (Value.int IntKind.i64 b); (with_reducible refine (draw_any b _).mono ?_); rintro e w' ⟨rfl, rfl⟩)
              | (go_at_call 7; (with_reducible refine (two_ok _ a b _ (by omega) HD.out.1 HD.out.2).mono ?_); rintro e w' ⟨rfl, nd, rfl⟩; rw [Hi.out, Hj.out]))
            go_quiet (fail)
            go_wp2
            go_ret2
            refine ⟨ret_pair ?_ rfl, (Drawn.of w _).trans (Drawn.of _ _)⟩
            rw [FIN.out]
            first
              | rw [show max i j = j by omega, show min i j = i by omega, ← Hx.out, ← Hy.out]
              | rw [show max i j = i by omega, show min i j = j by omega, ← Hx.out, ← Hy.out]
            first | rw [if_pos (by omega)]; rfl | rw [if_neg (by omega)]; rfl
      · obtain ⟨e1, e2⟩ := q3 h0 h16 hd
        rw [e1, e2]
        clear q1 q2 q3 q4 e1 e2
        by_cases ha : isDraw a
        · have da : decide (isDraw a) = true := decide_eq_true ha
          have db : decide (isDraw b) = false := decide_eq_false (fun hb => hd ⟨ha, hb⟩)
          clear ha hd
          go_enter Try.func9, Try.ntmps9
          go_wp2_with (first
            | (go_at_call_of 12 (Value.int IntKind.i64 a); (with_reducible refine (draw_any a _).mono ?_); rintro e w' ⟨rfl, rfl⟩)
            | (go_at_call_of 12 (Value.int IntKind.i64 b); (with_reducible refine (draw_any b _).mono ?_); rintro e w' ⟨rfl, rfl⟩))
          go_ret2
          exact ⟨rfl, Drawn.refl _⟩
        · have da : decide (isDraw a) = false := decide_eq_false ha
          clear ha hd
          go_enter Try.func9, Try.ntmps9
          go_wp2_with (first
            | (go_at_call_of 12 (Value.int IntKind.i64 a); (with_reducible refine (draw_any a _).mono ?_); rintro e w' ⟨rfl, rfl⟩))
          go_ret2
          exact ⟨rfl, Drawn.refl _⟩
end Go.Proofs.Ytfnjlpmnoecehaa
