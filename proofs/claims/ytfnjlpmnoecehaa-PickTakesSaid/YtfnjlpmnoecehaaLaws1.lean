/- speaks, PickTakes, PickLess, PickTurned: the walks of the laws. -/
import Derived.Test.YtfnjlpmnoecehaaWalks3
namespace Go.Proofs.Ytfnjlpmnoecehaa
open Go.RowKit
set_option linter.unusedVariables false

structure SpeaksPost (w w' : World) : Prop where
  below : Below w.heap.size w w'
theorem below_speaks {B : Nat} {a w w' : World} (h : Below B a w) (k : SpeaksPost w w') (hB : B ≤ w.heap.size) : Below B a w' := h.trans (k.below.mono hB)

theorem row_lit (w : World) : Loads (w.alloc (.cells #[.int .i64 5, .int .i64 1, .int .i64 5] 3)) (some ⟨w.heap.size, 0, none⟩) 3 3 [5, 1, 5] := by
  intro _
  have hb : Blk (w.alloc (.cells #[.int .i64 5, .int .i64 1, .int .i64 5] 3)) w.heap.size [.int .i64 5, .int .i64 1, .int .i64 5] 3 := Blk.new w [.int .i64 5, .int .i64 1, .int .i64 5] 3
  refine ⟨_, _, rfl, by decide, by decide, hb.lt, fun i hi => ?_, fun i hi => ?_⟩
  · rw [Nat.zero_add, hb.cellAt]
    match i, hi with
    | 0, _ => rfl
    | 1, _ => rfl
    | 2, _ => rfl
  · match i, hi with
    | 0, _ => rfl
    | 1, _ => rfl
    | 2, _ => rfl

set_option maxRecDepth 100000 in
theorem speaks_any (w : World) : Calls Try.prog 11 #[] w fun e w' => e = .returned (.bool true) ∧ SpeaksPost w w' := by
  have e1 : twoI 3 4 1 = 1 := by decide
  have e2 : twoJ 3 4 1 = 2 := by decide
  have e3 : twoE 3 4 1 = 0 := by decide
  have e4 : pickX 3 ([5, 1, 5].getD · 0) 0 1 = 0 := by decide
  have e5 : pickE 3 0 1 = 0 := by decide
  have e6 : pickX 3 ([5, 1, 5].getD · 0) 0 0 = 1 := by decide
  have e7 : pickE 3 0 0 = 0 := by decide
  have t1 := fun W => two_any 3 4 1 W
  rw [e1, e2, e3] at t1
  have p1 := fun W => pick_any _ 3 3 [5, 1, 5] 0 1 _ (by decide) (row_lit W)
  rw [e4, e5] at p1
  have p2 := fun W => pick_any _ 3 3 [5, 1, 5] 0 0 _ (by decide) (row_lit W)
  rw [e6, e7] at p2
  have T1 := Lib.hid t1
  have P1 := Lib.hid p1
  have P2 := Lib.hid p2
  clear t1 p1 p2 e1 e2 e3 e4 e5 e6 e7
  go_enter Try.func11, Try.ntmps11
  go_wp2_with (first
    | (go_at_call 7; (with_reducible refine (T1.out _).mono ?_); rintro e w1 ⟨rfl, h1⟩)
    | (go_at_call 9; (with_reducible refine (P1.out w1).mono ?_); rintro e w2 ⟨rfl, h2⟩)
    | (go_at_call 9; (with_reducible refine (P2.out w2).mono ?_); rintro e w3 ⟨rfl, h3⟩))
  go_ret
  refine ⟨rfl, ⟨?_⟩⟩
  have b1 := h1.below w.heap.size
  have b2 := h2.below w.heap.size
  have b3 := h3.below w.heap.size
  have s1 := b1.size
  have s2 := b2.size
  simp only [World.size_alloc] at s2
  exact (((b1.alloc (by omega) _).trans b2).alloc (by omega) _).trans b3

set_option maxRecDepth 100000 in
set_option maxHeartbeats 800000 in
theorem takes_walk (a0 : Option Addr) (len0 cap0 : Nat) (z0 : List Int) (a1 a2 : Int) (w : World) (w0 : IsRow .i64 w a0 len0 cap0 z0) :
    Calls Try.prog 3 #[.slice a0 len0 cap0, .int .i64 a1, .int .i64 a2] w fun e w' => e = .returned (.bool true) ∧ Below w.heap.size w w' := by
  obtain ⟨hmax, hr⟩ := isRow_when w0
  have HR := Lib.hid (show Loads w a0 len0 cap0 z0 from hr)
  clear hr w0
  go_enter Try.func3, Try.ntmps3
  go_wp2_with (first
    | (go_at_call 7; (with_reducible refine (two_any _ _ _ _).mono ?_); rintro e w1 ⟨rfl, d1⟩)
    | (go_at_call 8; (with_reducible refine (reftwo_any _ _ _ _).mono ?_); rintro e w2 ⟨rfl, d2⟩)
    | (go_at_call 9; (with_reducible refine (pick_any _ _ _ z0 _ _ w2 hmax (HR.out.drawn (d1.trans d2))).mono ?_); rintro e w3 ⟨rfl, d3⟩)
    | (go_at_call 10; (with_reducible refine (refpick_any _ _ _ z0 _ _ w3 hmax (HR.out.drawn ((d1.trans d2).trans d3))).mono ?_); rintro e w4 ⟨rfl, d4⟩)
    | (go_at_call 11; (with_reducible refine (speaks_any w4).mono ?_); rintro e w5 ⟨rfl, h5⟩))
  go_ret
  have hb := (((d1.trans d2).trans d3).trans d4).below w.heap.size
  exact ⟨rfl, below_speaks hb h5 hb.size⟩

theorem tI_turn (n a : Int) : tI n (a + n) = tI n a := by unfold tI; rw [Int.add_emod_right]
theorem tJ_turn (n a b : Int) : tJ n (a + n) (b + 3 * (n - 1)) = tJ n a b := by
  unfold tJ
  rw [Int.add_emod_right, Int.add_mul_emod_self_right]
theorem pickX_turn {n : Nat} {f : Nat → Int} {a b : Int} (h1 : 2 ≤ n) (h2 : n ≤ 16) (ha : 0 ≤ a ∧ a ≤ 1000000) (hb : 0 ≤ b ∧ b ≤ 1000000) :
    pickX n f (a + n) (b + 3 * ((n : Int) - 1)) = pickX n f a b ∧ pickE n (a + n) (b + 3 * ((n : Int) - 1)) = 0 ∧ pickE n a b = 0 := by
  have i1 : isDraw a := ⟨by omega, by omega⟩
  have i2 : isDraw b := ⟨by omega, by omega⟩
  have i3 : isDraw (a + n) := ⟨by omega, by omega⟩
  have i4 : isDraw (b + 3 * ((n : Int) - 1)) := ⟨by omega, by omega⟩
  refine ⟨?_, pickE_two (by omega) h2 i3 i4, pickE_two (by omega) h2 i1 i2⟩
  rw [pickX_two h1 h2 i3 i4, pickX_two h1 h2 i1 i2, tI_turn, tJ_turn]

set_option maxRecDepth 100000 in
set_option maxHeartbeats 800000 in
theorem turned_walk (a0 : Option Addr) (len0 cap0 : Nat) (z0 : List Int) (a1 a2 : Int) (w : World) (w0 : IsRow .i64 w a0 len0 cap0 z0) :
    Calls Try.prog 6 #[.slice a0 len0 cap0, .int .i64 a1, .int .i64 a2] w fun e w' => e = .returned (.bool true) ∧ Below w.heap.size w w' := by
  obtain ⟨hmax, hr⟩ := isRow_when w0
  have HR := Lib.hid (show Loads w a0 len0 cap0 z0 from hr)
  clear hr w0
  by_cases hn : 2 ≤ len0 ∧ len0 ≤ 16
  · obtain ⟨hn0, hn1⟩ := hn
    by_cases ha : 0 ≤ a1 ∧ a1 ≤ 1000000
    · by_cases hb : 0 ≤ a2 ∧ a2 ≤ 1000000
      · have hp := pickX_turn (f := (z0.getD · 0)) hn0 hn1 ha hb
        obtain ⟨ha0, ha1⟩ := ha
        obtain ⟨hb0, hb1⟩ := hb
        have p1 := pick_any a0 len0 cap0 z0 a1 a2 w hmax HR.out
        have p2 := fun W (d : Drawn w W) => pick_any a0 len0 cap0 z0 (a1 + len0) (a2 + 3 * ((len0 : Int) - 1)) W hmax (HR.out.drawn d)
        rw [hp.2.2] at p1
        rw [hp.1, hp.2.1] at p2
        have P1 := Lib.hid p1
        have P2 := Lib.hid p2
        clear p1 p2 hp
        go_enter Try.func6, Try.ntmps6
        go_wp2_with (first
          | (go_at_call 9; (with_reducible refine (P1.out).mono ?_); rintro e w1 ⟨rfl, d1⟩)
          | (go_at_call 9; (with_reducible refine (P2.out w1 d1).mono ?_); rintro e w2 ⟨rfl, d2⟩)
          | (go_at_call 11; (with_reducible refine (speaks_any w2).mono ?_); rintro e w3 ⟨rfl, h3⟩))
        go_ret
        have hb := (d1.trans d2).below w.heap.size
        exact ⟨rfl, below_speaks hb h3 hb.size⟩
      · rcases (show a2 < 0 ∨ 1000000 < a2 by omega) with hb | hb
        all_goals
          go_enter Try.func6, Try.ntmps6
          go_wp2_with (first
            | (go_at_call 11; (with_reducible refine (speaks_any w).mono ?_); rintro e w3 ⟨rfl, h3⟩))
          go_ret
          exact ⟨rfl, h3.below⟩
    · rcases (show a1 < 0 ∨ 1000000 < a1 by omega) with hb | hb
      · go_enter Try.func6, Try.ntmps6
        go_wp2_with (first
          | (go_at_call 11; (with_reducible refine (speaks_any w).mono ?_); rintro e w3 ⟨rfl, h3⟩))
        go_ret
        exact ⟨rfl, h3.below⟩
      · by_cases hb0 : a2 < 0
        all_goals
          go_enter Try.func6, Try.ntmps6
          go_wp2_with (first
            | (go_at_call 11; (with_reducible refine (speaks_any w).mono ?_); rintro e w3 ⟨rfl, h3⟩))
          go_ret
          exact ⟨rfl, h3.below⟩
  · rcases (show len0 < 2 ∨ 16 < len0 by omega) with hb | hb
    all_goals
      go_enter Try.func6, Try.ntmps6
      go_wp2_with (first
        | (go_at_call 11; (with_reducible refine (speaks_any w).mono ?_); rintro e w3 ⟨rfl, h3⟩))
      go_ret
      exact ⟨rfl, h3.below⟩
end Go.Proofs.Ytfnjlpmnoecehaa
