/- ScoreSteps, ScoreBounds, ScoreComes, ScoreOrder: the walks of the laws. -/
import Derived.Test.YtdflncklcpfcmaaWalks
import Derived.LoopTactic
import Derived.Deep.RegionWith
namespace Go.Proofs.Ytdflncklcpfcmaa
open Go.RowKit
set_option linter.unusedVariables false

structure SpeaksPost (w w' : World) : Prop where
  below : Below w.heap.size w w'

theorem below_sc {B : Nat} {a w w' : World} {b : Nat} {m : Int} (h : Below B a w) (k : ScPost b m w w') (hb : B ≤ b) (hB : B ≤ w.heap.size) : Below B a w' :=
  below_only h k.only hB (fun i hi => by omega)

set_option maxRecDepth 100000 in
theorem speaks_any (w : World) : Calls Try.prog 14 #[] w fun e w' => e = .returned (.bool true) ∧ SpeaksPost w w' := by
  have e1 : nextMean 0 8 = 8192 := by decide
  have e2 : nextMean 8192 0 = 7168 := by decide
  go_enter Try.func14, Try.ntmps14
  go_wp2_with (first
    | (go_at_call 7; (with_reducible refine (new_any _).mono ?_); rintro e w1 ⟨rfl, h1⟩)
    | (go_at_call 8; (with_reducible refine (add_any _ 0 8 _ h1.sc (by decide) (by decide)).mono ?_); rintro e w2 ⟨rfl, h2⟩; rw [e1] at h2 ⊢)
    | (go_at_call 8; (with_reducible refine (add_any _ 8192 0 _ h2.sc (by decide) (by decide)).mono ?_); rintro e w3 ⟨rfl, h3⟩; rw [e2] at h3 ⊢)
    | (go_at_call 11; (with_reducible refine (load_any _ 7168 1 _ h3.sc (by decide) (by decide)).mono ?_); rintro e w4 ⟨rfl, rfl⟩))
  go_ret
  have s1 := h1.size
  have s2 := h2.only.size
  exact ⟨rfl, ⟨below_sc (below_sc h1.below h2 (Nat.le_refl _) (by omega)) h3 (Nat.le_refl _) (by omega)⟩⟩

theorem below_speaks {B : Nat} {a w w' : World} (h : Below B a w) (k : SpeaksPost w w') (hB : B ≤ w.heap.size) : Below B a w' := h.trans (k.below.mono hB)

set_option maxRecDepth 100000 in
set_option maxHeartbeats 800000 in
theorem steps_walk (a0 : Option Addr) (len0 cap0 : Nat) (z0 : List Int) (a1 : Int) (w : World) (w0 : IsRow .i64 w a0 len0 cap0 z0) (w1 : (Lit.int .i64 a1).wf = true) :
    Calls Try.prog 3 #[.slice a0 len0 cap0, .int .i64 a1] w fun e w' => e = .returned (.bool true) ∧ Below w.heap.size w w' := by
  rcases isRow_at w0 with rfl | ⟨b, off, rfl, hrow⟩
  · clear w0
    go_enter Try.func3, Try.ntmps3
    go_wp2_with (first
      | (go_at_call 7; (with_reducible refine (new_any _).mono ?_); rintro e w1 ⟨rfl, h1⟩))
    refine wp_loop_rounds 1 ?_
    rw [rounds_succ]
    go_wp2_with (first
      | (go_at_call 14; (with_reducible refine (speaks_any _).mono ?_); rintro e w2 ⟨rfl, h2⟩))
    go_ret
    exact ⟨rfl, below_speaks h1.below h2 (by have := h1.size; omega)⟩
  · clear w0
    have hmax := hrow.max
    have HR := Lib.hid hrow
    clear hrow
    go_enter Try.func3, Try.ntmps3
    go_wp2_with (first
      | (go_at_call 7; (with_reducible refine (new_any _).mono ?_); rintro e wn ⟨rfl, h1⟩))
    go_loopw [6, 18] (fun m i wr => ∃ (k : Nat) (M : Int), k ≤ len0 ∧ i = .int .i64 k ∧ m = .int .i64 M ∧ Sc wr w.heap.size M ∧ Below w.heap.size w wr ∧ w.heap.size < wr.heap.size)
      (fun _ i _ => len0 - (intOf i).toNat)
    case atStart => exact ⟨0, 0, Nat.zero_le _, rfl, rfl, h1.sc, h1.below, by have := h1.size; omega⟩
    case round =>
      obtain ⟨k, M, hk, rfl, rfl, hsc, hbel, hsz⟩ := hrel
      have hM0 := hsc.2.1
      have hM1 := hsc.2.2
      by_cases hlt : k < len0
      · have hcell := (HR.out.below hbel (Nat.le_refl _)).cell k hlt
        obtain ⟨x, hx⟩ : ∃ x, x = z0.getD k 0 := ⟨_, rfl⟩
        rw [← hx] at hcell
        clear hx
        have hrun : (0 ≤ a1 ∧ a1 ≤ 1000000) ∨ (a1 < 0 ∨ 1000000 < a1) := by omega
        rcases hrun with ⟨hr0, hr1⟩ | hrb
        · rcases (show (0 ≤ x ∧ x ≤ 1000000) ∨ (x < 0 ∨ 1000000 < x) by omega) with ⟨hx0, hx1⟩ | hxb
          · have hn := nextMean_bounds hM0 hM1 ⟨hx0, hx1⟩
            go_wp2_with (first
              | (go_at_call 8; (with_reducible refine (add_any _ _ _ _ hsc hx0 hx1).mono ?_); rintro e wa ⟨rfl, ha⟩)
              | (go_at_call 9; (with_reducible refine (sample_yes _ _ hx0 hx1).mono ?_); rintro e w' ⟨rfl, rfl⟩)
              | (go_at_call 10; (with_reducible refine (next_any _ _ _ hM0 hM1 hx0 hx1).mono ?_); rintro e w' ⟨rfl, rfl⟩)
              | (go_at_call 11; (with_reducible refine (load_any _ _ _ _ ha.sc hr0 hr1).mono ?_); rintro e w' ⟨rfl, rfl⟩)
              | (go_at_call 12; (with_reducible refine (refload_any _ _ _ hn.1 hn.2 hr0 hr1).mono ?_); rintro e w' ⟨rfl, rfl⟩)
              | (go_at_call 13; (with_reducible refine (mean_any _ _ _ ha.sc).mono ?_); rintro e w' ⟨rfl, rfl⟩))
            go_roundw
            case rel => exact ⟨k + 1, _, by omega, by go_num, rfl, ha.sc, below_sc hbel ha (Nat.le_refl _) (by omega), by have := ha.only.size; omega⟩
            case measure => simp [intOf]; omega
          · go_wp2_with (first
              | (go_at_call 8; (with_reducible refine (add_bad _ _ _ hxb).mono ?_); rintro e w' ⟨rfl, rfl⟩)
              | (go_at_call 9; (with_reducible refine (sample_no _ _ hxb).mono ?_); rintro e w' ⟨rfl, rfl⟩)
              | (go_at_call 11; (with_reducible refine (load_any _ _ _ _ hsc hr0 hr1).mono ?_); rintro e w' ⟨rfl, rfl⟩)
              | (go_at_call 12; (with_reducible refine (refload_any _ _ _ hM0 hM1 hr0 hr1).mono ?_); rintro e w' ⟨rfl, rfl⟩)
              | (go_at_call 13; (with_reducible refine (mean_any _ _ _ hsc).mono ?_); rintro e w' ⟨rfl, rfl⟩))
            go_roundw
            case rel => exact ⟨k + 1, _, by omega, by go_num, rfl, hsc, hbel, hsz⟩
            case measure => simp [intOf]; omega
        · rcases (show (0 ≤ x ∧ x ≤ 1000000) ∨ (x < 0 ∨ 1000000 < x) by omega) with ⟨hx0, hx1⟩ | hxb
          · have hn := nextMean_bounds hM0 hM1 ⟨hx0, hx1⟩
            go_wp2_with (first
              | (go_at_call 8; (with_reducible refine (add_any _ _ _ _ hsc hx0 hx1).mono ?_); rintro e wa ⟨rfl, ha⟩)
              | (go_at_call 9; (with_reducible refine (sample_yes _ _ hx0 hx1).mono ?_); rintro e w' ⟨rfl, rfl⟩)
              | (go_at_call 10; (with_reducible refine (next_any _ _ _ hM0 hM1 hx0 hx1).mono ?_); rintro e w' ⟨rfl, rfl⟩)
              | (go_at_call 11; (with_reducible refine (load_bad _ _ _ hrb).mono ?_); rintro e w' ⟨rfl, rfl⟩)
              | (go_at_call 12; (with_reducible refine (refload_bad _ _ _ hrb).mono ?_); rintro e w' ⟨rfl, rfl⟩)
              | (go_at_call 13; (with_reducible refine (mean_any _ _ _ ha.sc).mono ?_); rintro e w' ⟨rfl, rfl⟩))
            go_roundw
            case rel => exact ⟨k + 1, _, by omega, by go_num, rfl, ha.sc, below_sc hbel ha (Nat.le_refl _) (by omega), by have := ha.only.size; omega⟩
            case measure => simp [intOf]; omega
          · go_wp2_with (first
              | (go_at_call 8; (with_reducible refine (add_bad _ _ _ hxb).mono ?_); rintro e w' ⟨rfl, rfl⟩)
              | (go_at_call 9; (with_reducible refine (sample_no _ _ hxb).mono ?_); rintro e w' ⟨rfl, rfl⟩)
              | (go_at_call 11; (with_reducible refine (load_bad _ _ _ hrb).mono ?_); rintro e w' ⟨rfl, rfl⟩)
              | (go_at_call 12; (with_reducible refine (refload_bad _ _ _ hrb).mono ?_); rintro e w' ⟨rfl, rfl⟩)
              | (go_at_call 13; (with_reducible refine (mean_any _ _ _ hsc).mono ?_); rintro e w' ⟨rfl, rfl⟩))
            go_roundw
            case rel => exact ⟨k + 1, _, by omega, by go_num, rfl, hsc, hbel, hsz⟩
            case measure => simp [intOf]; omega
      · go_wp2_with (first
          | (go_at_call 14; (with_reducible refine (speaks_any _).mono ?_); rintro e w2 ⟨rfl, h2⟩))
        go_ret
        exact ⟨rfl, below_speaks hbel h2 (by omega)⟩
end Go.Proofs.Ytdflncklcpfcmaa
