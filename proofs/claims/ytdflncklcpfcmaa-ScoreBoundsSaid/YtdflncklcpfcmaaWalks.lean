/- The functions of package score and of its reference, one contract each. -/
import Derived.Test.YtdflncklcpfcmaaProg
import Derived.Test.YtdflncklcpfcmaaLib
import Derived.RegionTactic
import Derived.BigRegion
import Derived.BigQuiet
import Derived.Deep.QuietTactic
import Derived.StillTailTactics
import Derived.KernelRfl
namespace Go.Proofs.Ytdflncklcpfcmaa
open Go.RowKit
set_option linter.unusedVariables false

/-- A score at block b with this mean. -/
def Sc (w : World) (b : Nat) (m : Int) : Prop := Blk w b [.int .i64 m] 39 ∧ 0 ≤ m ∧ m ≤ 1024000000
/-- The mean behind a sample. -/
def nextMean (m x : Int) : Int := if 1024 * x > m then 1024 * x else m - (m - 1024 * x) / 8
def isSample (x : Int) : Prop := 0 ≤ x ∧ x ≤ 1000000

theorem nextMean_bounds {m x : Int} (h0 : 0 ≤ m) (h1 : m ≤ 1024000000) (hx : isSample x) : 0 ≤ nextMean m x ∧ nextMean m x ≤ 1024000000 := by
  unfold nextMean isSample at *
  split <;> omega
theorem nextMean_max {m x : Int} (h0 : 0 ≤ m) (h1 : m ≤ 1024000000) (hx0 : 0 ≤ x) (hx : x ≤ 1000000) :
    (if x * 1024 < wrap64 (m - (m - x * 1024).tdiv 8) then wrap64 (m - (m - x * 1024).tdiv 8) else x * 1024) = nextMean m x := by
  unfold nextMean
  by_cases h : 1024 * x > m
  · have e : (m - x * 1024).tdiv 8 = -((x * 1024 - m) / 8) := by
      rw [show m - x * 1024 = -(x * 1024 - m) by omega, Int.neg_tdiv, Int.tdiv_eq_ediv_of_nonneg (by omega)]
    have hq : 0 ≤ (x * 1024 - m) / 8 ∧ m + (x * 1024 - m) / 8 ≤ x * 1024 := by omega
    have hw : wrap64 (m - -((x * 1024 - m) / 8)) = m + (x * 1024 - m) / 8 := by
      generalize (x * 1024 - m) / 8 = q at *
      unfold wrap64
      omega
    rw [e, hw, if_pos h]
    split <;> omega
  · rw [Int.tdiv_eq_ediv_of_nonneg (by omega), if_neg h]
    unfold wrap64
    split <;> omega

structure ScPost (b : Nat) (m : Int) (w w' : World) : Prop where
  sc : Sc w' b m
  only : Only (fun k => k = b) w w'
structure NewPost (w w' : World) : Prop where
  sc : Sc w' w.heap.size 0
  below : Below w.heap.size w w'
  size : w'.heap.size = w.heap.size + 1

theorem new_any (w : World) : Calls Try.prog 7 #[] w fun e w' => e = .returned (.pointer (some ⟨w.heap.size, 0, none⟩)) ∧ NewPost w w' := by
  go_enter Try.func7, Try.ntmps7
  go_wp2
  go_ret
  refine ⟨rfl, ⟨?_, by decide, by decide⟩, (Below.refl _ _).alloc (Nat.le_refl _) _, by simp⟩
  exact Blk.new w [.int .i64 0] 39

theorem mean_any (b : Nat) (m : Int) (w : World) (hs : Sc w b m) :
    Calls Try.prog 13 #[.pointer (some ⟨b, 0, none⟩)] w fun e w' => e = .returned (.int .i64 m) ∧ w = w' := by
  have hc := hs.1.cell 0 _ rfl
  clear hs
  go_enter Try.func13, Try.ntmps13
  go_wp2
  go_ret
  exact ⟨rfl, rfl⟩

theorem load_any (b : Nat) (m r : Int) (w : World) (hs : Sc w b m) (hr0 : 0 ≤ r) (hr : r ≤ 1000000) :
    Calls Try.prog 11 #[.pointer (some ⟨b, 0, none⟩), .int .i64 r] w fun e w' => e = .returned (.tuple #[.int .i64 ((m + 1024) * (r + 1)), .int .i64 0]) ∧ w = w' := by
  have hm0 := hs.2.1
  have hm := hs.2.2
  have h2 : (m + 1024) * (r + 1) ≤ (1024000000 + 1024) * (1000000 + 1) := Int.mul_le_mul (by omega) (by omega) (by omega) (by omega)
  have h3 : 0 ≤ (m + 1024) * (r + 1) := Int.mul_nonneg (by omega) (by omega)
  go_enter Try.func11, Try.ntmps11
  go_wp2_with (first | (go_at_call 13; refine (mean_any _ _ _ hs).mono ?_; rintro e w' ⟨rfl, rfl⟩))
  go_ret2
  exact ⟨rfl, rfl⟩

theorem load_bad (b : Nat) (r : Int) (w : World) (hr : r < 0 ∨ 1000000 < r) :
    Calls Try.prog 11 #[.pointer (some ⟨b, 0, none⟩), .int .i64 r] w fun e w' => e = .returned (.tuple #[.int .i64 0, .int .i64 1]) ∧ w = w' := by
  rcases hr with hr | hr
  all_goals
    go_enter Try.func11, Try.ntmps11
    go_wp2_with fail
    go_ret2
    exact ⟨rfl, rfl⟩

theorem add_any (b : Nat) (m s : Int) (w : World) (hs : Sc w b m) (hs0 : 0 ≤ s) (hs1 : s ≤ 1000000) :
    Calls Try.prog 8 #[.pointer (some ⟨b, 0, none⟩), .int .i64 s] w fun e w' => e = .returned (.tuple #[.int .i64 (nextMean m s), .int .i64 0]) ∧ ScPost b (nextMean m s) w w' := by
  have hm0 := hs.2.1
  have hm := hs.2.2
  have hx := nextMean_max hm0 hm hs0 hs1
  have hb := nextMean_bounds hm0 hm ⟨hs0, hs1⟩
  have hc := hs.1.cell 0 _ rfl
  have hf := hs.1.free 0
  have HX := Lib.hid hx
  have HB := Lib.hid hb
  have HS := Lib.hid hs
  clear hs hx hb
  go_enter Try.func8, Try.ntmps8
  go_wp2
  go_still_tail 19, (by kernel_rfl)
  go_wp2
  all_goals
    go_ret2
    have hx := HX.out
    first | rw [if_pos (by assumption)] at hx | rw [if_neg (by omega)] at hx
    rw [← hx]
    refine ⟨ret_pair rfl rfl, ⟨(HS.out.1.set 0 _).drew, ?_⟩, ((Only.refl (fun k => k = b) w).setCell (p := ⟨b, 0, none⟩) (fun _ => rfl) _).drew⟩
    rw [hx]
    exact HB.out

theorem add_bad (b : Nat) (s : Int) (w : World) (hs : s < 0 ∨ 1000000 < s) :
    Calls Try.prog 8 #[.pointer (some ⟨b, 0, none⟩), .int .i64 s] w fun e w' => e = .returned (.tuple #[.int .i64 0, .int .i64 1]) ∧ w = w' := by
  rcases hs with hs | hs
  all_goals
    go_enter Try.func8, Try.ntmps8
    go_wp2
    go_ret2
    exact ⟨rfl, rfl⟩

theorem sample_yes (s : Int) (w : World) (hs0 : 0 ≤ s) (hs1 : s ≤ 1000000) :
    Calls Try.prog 9 #[.int .i64 s] w fun e w' => e = .returned (.bool true) ∧ w = w' := by
  go_enter Try.func9, Try.ntmps9
  go_wp2
  go_ret
  exact ⟨ret_bool (by first | rfl | (simp; done) | (simp; omega)), rfl⟩
theorem sample_no (s : Int) (w : World) (hs : s < 0 ∨ 1000000 < s) :
    Calls Try.prog 9 #[.int .i64 s] w fun e w' => e = .returned (.bool false) ∧ w = w' := by
  rcases hs with hs | hs
  all_goals
    go_enter Try.func9, Try.ntmps9
    go_wp2
    go_ret
    exact ⟨ret_bool (by first | rfl | (simp; done) | (simp; omega)), rfl⟩

theorem next_any (m s : Int) (w : World) (hm0 : 0 ≤ m) (hm : m ≤ 1024000000) (hs0 : 0 ≤ s) (hs1 : s ≤ 1000000) :
    Calls Try.prog 10 #[.int .i64 m, .int .i64 s] w fun e w' => e = .returned (.int .i64 (nextMean m s)) ∧ w = w' := by
  by_cases h : m < 1024 * s
  · go_enter Try.func10, Try.ntmps10
    go_wp2
    go_ret
    exact ⟨ret_int (by unfold nextMean; rw [if_pos (by omega)]), rfl⟩
  · go_enter Try.func10, Try.ntmps10
    go_wp2
    go_ret
    exact ⟨ret_int (by unfold nextMean; rw [if_neg (by omega)]), rfl⟩

theorem refload_any (m r : Int) (w : World) (hm0 : 0 ≤ m) (hm : m ≤ 1024000000) (hr0 : 0 ≤ r) (hr : r ≤ 1000000) :
    Calls Try.prog 12 #[.int .i64 m, .int .i64 r] w fun e w' => e = .returned (.tuple #[.int .i64 ((m + 1024) * (r + 1)), .int .i64 0]) ∧ w = w' := by
  have h2 : (m + 1024) * (r + 1) ≤ (1024000000 + 1024) * (1000000 + 1) := Int.mul_le_mul (by omega) (by omega) (by omega) (by omega)
  have h3 : 0 ≤ (m + 1024) * (r + 1) := Int.mul_nonneg (by omega) (by omega)
  go_enter Try.func12, Try.ntmps12
  go_wp2
  go_ret2
  exact ⟨rfl, rfl⟩
theorem refload_bad (m r : Int) (w : World) (hr : r < 0 ∨ 1000000 < r) :
    Calls Try.prog 12 #[.int .i64 m, .int .i64 r] w fun e w' => e = .returned (.tuple #[.int .i64 0, .int .i64 1]) ∧ w = w' := by
  rcases hr with hr | hr
  all_goals
    go_enter Try.func12, Try.ntmps12
    go_wp2
    go_ret2
    exact ⟨rfl, rfl⟩
end Go.Proofs.Ytdflncklcpfcmaa
