/- ScoreBounds, ScoreComes, ScoreOrder: the walks of the laws. -/
import Derived.Test.YtdflncklcpfcmaaLaws1
namespace Go.Proofs.Ytdflncklcpfcmaa
open Go.RowKit
set_option linter.unusedVariables false

theorem nextMean_facts {m x : Int} (h0 : 0 ≤ m) (hx : 0 ≤ x) : 1024 * x ≤ nextMean m x ∧ (nextMean m x ≤ m ∨ nextMean m x = 1024 * x) ∧ 8 * (m - nextMean m x) ≤ m := by
  unfold nextMean
  split <;> omega

set_option maxRecDepth 100000 in
set_option maxHeartbeats 800000 in
theorem bounds_walk (a0 : Option Addr) (len0 cap0 : Nat) (z0 : List Int) (w : World) (w0 : IsRow .i64 w a0 len0 cap0 z0) :
    Calls Try.prog 4 #[.slice a0 len0 cap0] w fun e w' => e = .returned (.bool true) ∧ Below w.heap.size w w' := by
  rcases isRow_at w0 with rfl | ⟨b, off, rfl, hrow⟩
  · clear w0
    go_enter Try.func4, Try.ntmps4
    go_wp2_with (first
      | (go_at_call 7; (with_reducible refine (new_any _).mono ?_); rintro e w1 ⟨rfl, h1⟩))
    refine wp_loop_rounds 1 ?_
    rw [rounds_succ]
    go_wp2_with (first
      | (go_at_call 14; (with_reducible refine (speaks_any _).mono ?_); rintro e w2 ⟨rfl, h2⟩))
    go_ret
    exact ⟨rfl, below_speaks h1.below h2 (by have := h1.size; omega)⟩
  · clear w0
    have hmax := hrow.max
    have HR := Lib.hid hrow
    clear hrow
    go_enter Try.func4, Try.ntmps4
    go_wp2_with (first
      | (go_at_call 7; (with_reducible refine (new_any _).mono ?_); rintro e wn ⟨rfl, h1⟩))
    go_loopw [4, 5, 13] (fun mo m i wr => ∃ (k : Nat) (M O : Int), k ≤ len0 ∧ i = .int .i64 k ∧ m = .int .i64 M ∧ mo = .int .i64 O ∧ 0 ≤ O ∧ O ≤ 1000000 ∧ M ≤ 1024 * O ∧ Sc wr w.heap.size M ∧ Below w.heap.size w wr ∧ w.heap.size < wr.heap.size)
      (fun _ _ i _ => len0 - (intOf i).toNat)
    case atStart => exact ⟨0, 0, 0, Nat.zero_le _, rfl, rfl, rfl, by decide, by decide, by decide, h1.sc, h1.below, by have := h1.size; omega⟩
    case round =>
      obtain ⟨k, M, O, hk, rfl, rfl, rfl, hO0, hO1, hMO, hsc, hbel, hsz⟩ := hrel
      have hM0 := hsc.2.1
      have hM1 := hsc.2.2
      by_cases hlt : k < len0
      · have hcell := (HR.out.below hbel (Nat.le_refl _)).cell k hlt
        obtain ⟨x, hx⟩ : ∃ x, x = z0.getD k 0 := ⟨_, rfl⟩
        rw [← hx] at hcell
        clear hx
        rcases (show (0 ≤ x ∧ x ≤ 1000000) ∨ (x < 0 ∨ 1000000 < x) by omega) with ⟨hx0, hx1⟩ | hxb
        · have hn := nextMean_facts hM0 hx0
          have hn1 := hn.1
          have hn2 := hn.2.1
          have hn3 := hn.2.2
          have hnb := nextMean_bounds hM0 hM1 ⟨hx0, hx1⟩
          have hn4 : x ≤ O → nextMean M x ≤ 1024 * O := fun h => by omega
          have hn5 : ¬ x ≤ O → nextMean M x ≤ 1024 * x := fun h => by omega
          by_cases hxo : O < x
          · have hn6 := hn5 (by omega)
            clear hn hn4 hn5 hn2
            go_wp2_with (first
              | (go_at_call 8; (with_reducible refine (add_any _ _ _ _ hsc hx0 hx1).mono ?_); rintro e wa ⟨rfl, ha⟩)
              | (go_at_call 9; (with_reducible refine (sample_yes _ _ hx0 hx1).mono ?_); rintro e w' ⟨rfl, rfl⟩))
            go_roundw
            case rel => exact ⟨k + 1, _, _, by omega, by go_num, rfl, rfl, by omega, by omega, hn6, ha.sc, below_sc hbel ha (Nat.le_refl _) (by omega), by have := ha.only.size; omega⟩
            case measure => simp [intOf]; omega
          · have hn6 := hn4 (by omega)
            clear hn hn4 hn5 hn2
            go_wp2_with (first
              | (go_at_call 8; (with_reducible refine (add_any _ _ _ _ hsc hx0 hx1).mono ?_); rintro e wa ⟨rfl, ha⟩)
              | (go_at_call 9; (with_reducible refine (sample_yes _ _ hx0 hx1).mono ?_); rintro e w' ⟨rfl, rfl⟩))
            go_roundw
            case rel => exact ⟨k + 1, _, _, by omega, by go_num, rfl, rfl, by omega, by omega, hn6, ha.sc, below_sc hbel ha (Nat.le_refl _) (by omega), by have := ha.only.size; omega⟩
            case measure => simp [intOf]; omega
        · go_wp2_with (first
            | (go_at_call 9; (with_reducible refine (sample_no _ _ hxb).mono ?_); rintro e w' ⟨rfl, rfl⟩))
          go_roundw
          case rel => exact ⟨k + 1, _, _, by omega, by go_num, rfl, rfl, by omega, by omega, hMO, hsc, hbel, hsz⟩
          case measure => simp [intOf]; omega
      · go_wp2_with (first
          | (go_at_call 14; (with_reducible refine (speaks_any _).mono ?_); rintro e w2 ⟨rfl, h2⟩))
        go_ret
        exact ⟨rfl, below_speaks hbel h2 (by omega)⟩

/-- How far above the sample a mean may stand behind so many samples. -/
def far : Nat → Nat
  | 0 => 1024000000
  | k + 1 => far k - far k / 8
theorem far_end : far 300 < 8 := by decide +kernel
theorem far_step {m x : Int} {k : Nat} (h : m - 1024 * x ≤ far k) : nextMean m x - 1024 * x ≤ far (k + 1) ∧ 0 ≤ nextMean m x - 1024 * x := by
  have e : ((far (k + 1) : Nat) : Int) = (far k : Int) - (far k : Int) / 8 := by
    show ((far k - far k / 8 : Nat) : Int) = _
    omega
  rw [e]
  unfold nextMean
  split <;> omega

def Comes (again : Int) (wB wr : World) (k : Nat) : Prop := ∃ M : Int, Sc wr wB.heap.size M ∧ M - 1024 * again ≤ far k ∧ (0 < k → 0 ≤ M - 1024 * again) ∧ Below wB.heap.size wB wr ∧ wB.heap.size < wr.heap.size

set_option maxRecDepth 100000 in
set_option maxHeartbeats 800000 in
theorem comes_walk (a0 a1 : Int) (w : World) (_w0 : (Lit.int .i64 a0).wf = true) (_w1 : (Lit.int .i64 a1).wf = true) :
    Calls Try.prog 5 #[.int .i64 a0, .int .i64 a1] w fun e w' => e = .returned (.bool true) ∧ Below w.heap.size w w' := by
  clear _w0 _w1
  rcases (show (0 ≤ a0 ∧ a0 ≤ 1000000) ∨ (a0 < 0 ∨ 1000000 < a0) by omega) with ⟨hx0, hx1⟩ | hxb
  · rcases (show (0 ≤ a1 ∧ a1 ≤ 1000000) ∨ (a1 < 0 ∨ 1000000 < a1) by omega) with ⟨hy0, hy1⟩ | hyb
    · have hfirst := nextMean_bounds (m := 0) (by decide) (by decide) ⟨hx0, hx1⟩
      go_enter Try.func5, Try.ntmps5
      go_wp2_with (first
        | (go_at_call 7; (with_reducible refine (new_any _).mono ?_); rintro e wn ⟨rfl, h1⟩)
        | (go_at_call_of 9 (Value.int IntKind.i64 a0); (with_reducible refine (sample_yes _ _ hx0 hx1).mono ?_); rintro e w' ⟨rfl, rfl⟩)
        | (go_at_call_of 9 (Value.int IntKind.i64 a1); (with_reducible refine (sample_yes _ _ hy0 hy1).mono ?_); rintro e w' ⟨rfl, rfl⟩)
        | (go_at_call 8; (with_reducible refine (add_any _ _ _ _ h1.sc hx0 hx1).mono ?_); rintro e wa ⟨rfl, ha⟩))
      go_loopw [6] (fun i wr => ∃ k : Nat, k ≤ 300 ∧ i = .int .i64 k ∧ Comes a1 w wr k) (fun i _ => 300 - (intOf i).toNat)
      case atStart =>
        refine ⟨0, by decide, rfl, _, ha.sc, ?_, fun h => absurd h (by decide), below_sc h1.below ha (Nat.le_refl _) (by have := h1.size; omega), by have := h1.size; have := ha.only.size; omega⟩
        have e : ((far 0 : Nat) : Int) = 1024000000 := rfl
        rw [e]
        have := ha.sc.2.2
        omega
      case round =>
        obtain ⟨k, hk, rfl, hcm⟩ := hrel
        obtain ⟨M, hsc, hf, hpos, hbel, hsz⟩ := hcm
        by_cases hlt : k < 300
        · have hst := far_step hf
          have HST := Lib.hid hst
          have HP := Lib.hid hpos
          clear hst hpos hf
          go_wp2_with (first
            | (go_at_call 8; (with_reducible refine (add_any _ _ _ _ hsc hy0 hy1).mono ?_); rintro e wb ⟨rfl, hb⟩))
          go_roundw
          case rel => exact ⟨k + 1, by omega, by go_num, _, hb.sc, HST.out.1, fun _ => HST.out.2, below_sc hbel hb (Nat.le_refl _) (by omega), by have := hb.only.size; omega⟩
          case measure => simp [intOf]; omega
        · have hM0 : 1024 * a1 ≤ M := by have := hpos (by omega); omega
          have hM1 : M < 1024 * a1 + 8 := by
            have h3 := far_end
            obtain rfl : k = 300 := by omega
            omega
          clear hf hpos
          go_wp2_with (first
            | (go_at_call 13; (with_reducible refine (mean_any _ _ _ hsc).mono ?_); rintro e w' ⟨rfl, rfl⟩)
            | (go_at_call 14; (with_reducible refine (speaks_any _).mono ?_); rintro e w2 ⟨rfl, h2⟩))
          go_ret
          exact ⟨rfl, below_speaks hbel h2 (by omega)⟩
    · go_enter Try.func5, Try.ntmps5
      go_wp2_with (first
        | (go_at_call 7; (with_reducible refine (new_any _).mono ?_); rintro e wn ⟨rfl, h1⟩)
        | (go_at_call_of 9 (Value.int IntKind.i64 a0); (with_reducible refine (sample_yes _ _ hx0 hx1).mono ?_); rintro e w' ⟨rfl, rfl⟩)
        | (go_at_call_of 9 (Value.int IntKind.i64 a1); (with_reducible refine (sample_no _ _ hyb).mono ?_); rintro e w' ⟨rfl, rfl⟩)
        | (go_at_call 14; (with_reducible refine (speaks_any _).mono ?_); rintro e w2 ⟨rfl, h2⟩))
      go_ret
      exact ⟨rfl, below_speaks h1.below h2 (by have := h1.size; omega)⟩
  · go_enter Try.func5, Try.ntmps5
    go_wp2_with (first
      | (go_at_call 7; (with_reducible refine (new_any _).mono ?_); rintro e wn ⟨rfl, h1⟩)
      | (go_at_call_of 9 (Value.int IntKind.i64 a0); (with_reducible refine (sample_no _ _ hxb).mono ?_); rintro e w' ⟨rfl, rfl⟩)
      | (go_at_call 14; (with_reducible refine (speaks_any _).mono ?_); rintro e w2 ⟨rfl, h2⟩))
    go_ret
    exact ⟨rfl, below_speaks h1.below h2 (by have := h1.size; omega)⟩
end Go.Proofs.Ytdflncklcpfcmaa
