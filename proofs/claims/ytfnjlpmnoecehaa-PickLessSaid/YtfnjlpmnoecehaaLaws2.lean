/- PickLess: the walk of the law. -/
import Derived.Test.YtfnjlpmnoecehaaLaws1
namespace Go.Proofs.Ytfnjlpmnoecehaa
open Go.RowKit
set_option linter.unusedVariables false

theorem pickX_zero {n : Nat} {f : Nat → Int} {a b : Int} (h : pickE n a b ≠ 0 ∨ n < 2) : pickX n f a b = 0 := by
  unfold pickE at h
  unfold pickX
  split
  · rfl
  · split
    · rfl
    · split
      · rfl
      · split
        · rfl
        · rename_i h0 h1 h2 h3
          rw [if_neg h0, if_neg h1, if_neg h2] at h
          omega
theorem pickE_ok {n : Nat} {a b : Int} (h : pickE n a b = 0) (h2 : 2 ≤ n) : n ≤ 16 ∧ isDraw a ∧ isDraw b := by
  unfold pickE at h
  split at h
  · omega
  · split at h
    · omega
    · split at h
      · omega
      · rename_i h0 h1 h3
        exact ⟨by omega, by simpa using h3⟩
theorem pickX_other {n : Nat} {f : Nat → Int} {a b : Int} (h : pickE n a b = 0) (h2 : 2 ≤ n) :
    ∃ x o : Nat, pickX n f a b = x ∧ x < n ∧ o < n ∧ o ≠ x ∧ f x ≤ f o := by
  obtain ⟨h16, ha, hb⟩ := pickE_ok h h2
  rw [pickX_two h2 h16 ha hb]
  have hI := tI_facts (n := n) (a := a) (by omega)
  have hJ := tJ_facts (n := n) (a := a) (b := b) (by omega)
  obtain ⟨i, hi⟩ := Int.eq_ofNat_of_zero_le hI.1
  obtain ⟨j, hj⟩ := Int.eq_ofNat_of_zero_le hJ.1
  rw [hi] at hI hJ
  rw [hj] at hJ
  rw [hi, hj, show (min (i : Int) (j : Int)) = ((min i j : Nat) : Int) by omega, show (max (i : Int) (j : Int)) = ((max i j : Nat) : Int) by omega]
  simp only [Int.toNat_natCast]
  have hne : i ≠ j := by have := hJ.2.2; omega
  by_cases h1 : f (min i j) > f (max i j)
  · exact ⟨max i j, min i j, by rw [if_pos h1], by omega, by omega, by omega, by omega⟩
  · exact ⟨min i j, max i j, by rw [if_neg h1], by omega, by omega, by omega, by omega⟩

set_option maxRecDepth 100000 in
set_option maxHeartbeats 800000 in
theorem less_walk (a0 : Option Addr) (len0 cap0 : Nat) (z0 : List Int) (a1 a2 : Int) (w : World) (w0 : IsRow .i64 w a0 len0 cap0 z0) :
    Calls Try.prog 5 #[.slice a0 len0 cap0, .int .i64 a1, .int .i64 a2] w fun e w' => e = .returned (.bool true) ∧ Below w.heap.size w w' := by
  obtain ⟨hmax, hr⟩ := isRow_when w0
  have HR := Lib.hid (show Loads w a0 len0 cap0 z0 from hr)
  clear hr w0
  have p1 := pick_any a0 len0 cap0 z0 a1 a2 w hmax HR.out
  by_cases hE : pickE len0 a1 a2 = 0
  · by_cases hl : len0 < 2
    · rw [pickX_zero (.inr hl), hE] at p1
      have P1 := Lib.hid p1
      clear p1 hE
      go_enter Try.func5, Try.ntmps5
      go_wp2_with (first
        | (go_at_call 9; (with_reducible refine (P1.out).mono ?_); rintro e w1 ⟨rfl, d1⟩)
        | (go_at_call 11; (with_reducible refine (speaks_any w1).mono ?_); rintro e w3 ⟨rfl, h3⟩))
      go_ret
      exact ⟨rfl, below_speaks (d1.below _) h3 (d1.below 0).size⟩
    · obtain ⟨x, o, hx, hxl, hol, hne, hle⟩ := pickX_other (f := (z0.getD · 0)) hE (by omega)
      rw [hx, hE] at p1
      have P1 := Lib.hid p1
      clear p1 hE hx
      obtain ⟨g, off, rfl, hrow⟩ := HR.out (by omega)
      clear HR
      have HR := Lib.hid hrow
      clear hrow
      obtain ⟨zx, hzx⟩ : ∃ zx, zx = z0.getD x 0 := ⟨_, rfl⟩
      obtain ⟨zo, hzo⟩ : ∃ zo, zo = z0.getD o 0 := ⟨_, rfl⟩
      simp only [← hzx, ← hzo] at hle
      have HX := Lib.hid hzx
      have HO := Lib.hid hzo
      clear hzx hzo
      go_enter Try.func5, Try.ntmps5
      go_wp2_with (first
        | (go_at_call 9; (with_reducible refine (P1.out).mono ?_); rintro e w1 ⟨rfl, d1⟩))
      go_loop [40] (fun i => ∃ k : Nat, k ≤ o ∧ i = .int .i64 k) (fun i => o - (intOf i).toNat)
      case atStart => exact ⟨0, Nat.zero_le _, rfl⟩
      case round =>
        obtain ⟨k, hk, rfl⟩ := hrel
        have hkl : k < len0 := by omega
        have ck := (HR.out.drawn d1).cell k hkl
        have cx := (HR.out.drawn d1).cell x hxl
        rw [← HX.out] at cx
        obtain ⟨zk, hzk⟩ : ∃ zk, zk = z0.getD k 0 := ⟨_, rfl⟩
        rw [← hzk] at ck
        have HK := Lib.hid hzk
        clear hzk
        by_cases hkx : k = x
        · subst hkx
          go_wp2
          go_round
          case rel => exact ⟨k + 1, by omega, by go_num⟩
          case measure => simp [intOf]; omega
        · by_cases hz : zx ≤ zk
          · go_wp2_with (first
              | (go_at_call 11; (with_reducible refine (speaks_any w1).mono ?_); rintro e w3 ⟨rfl, h3⟩))
            go_ret
            exact ⟨rfl, below_speaks (d1.below _) h3 (d1.below 0).size⟩
          · have hko : k ≠ o := by
              rintro rfl
              have e1 := HK.out
              have e2 := HO.out
              omega
            go_wp2
            exact ⟨⟨_, _, _, _, ⟨k + 1, by omega, rfl⟩, rfl, rfl, rfl, by go_num⟩, by simp [intOf]; omega⟩
  · rw [pickX_zero (.inl hE)] at p1
    have P1 := Lib.hid p1
    clear p1
    go_enter Try.func5, Try.ntmps5
    go_wp2_with (first
      | (go_at_call 9; (with_reducible refine (P1.out).mono ?_); rintro e w1 ⟨rfl, d1⟩)
      | (go_at_call 11; (with_reducible refine (speaks_any w1).mono ?_); rintro e w3 ⟨rfl, h3⟩))
    go_ret
    exact ⟨rfl, below_speaks (d1.below _) h3 (d1.below 0).size⟩
end Go.Proofs.Ytfnjlpmnoecehaa
