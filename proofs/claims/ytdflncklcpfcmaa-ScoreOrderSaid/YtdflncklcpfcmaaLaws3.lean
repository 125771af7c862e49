/- ScoreOrder: the walk of the law. -/
import Derived.Test.YtdflncklcpfcmaaLaws1
namespace Go.Proofs.Ytdflncklcpfcmaa
open Go.RowKit
set_option linter.unusedVariables false

theorem nextMean_mono {m n x y : Int} (h : m ≤ n) (k : x ≤ y) : nextMean m x ≤ nextMean n y := by
  unfold nextMean
  split <;> split <;> omega
theorem Sc.only {S : Nat → Prop} {w w' : World} {b : Nat} {m : Int} (h : Sc w b m) (ho : Only S w w') (hn : ¬ S b) : Sc w' b m := ⟨h.1.only ho hn, h.2⟩
theorem Sc.below {B : Nat} {w w' : World} {b : Nat} {m : Int} (h : Sc w b m) (ho : Below B w w') (hn : b < B) : Sc w' b m := ⟨h.1.below ho hn, h.2⟩

structure Two (w wr : World) (p q : Nat) (M R : Int) : Prop where
  a : Sc wr p M
  b : Sc wr q R
  le : M ≤ R
  below : Below w.heap.size w wr
  ne : p ≠ q
  hp : w.heap.size ≤ p
  hq : w.heap.size ≤ q
  lp : p < wr.heap.size
  lq : q < wr.heap.size

theorem Two.step {w wr wa wb : World} {p q : Nat} {M R x y : Int} (h : Two w wr p q M R) (ha : ScPost p (nextMean M x) wr wa) (hb : ScPost q (nextMean R y) wa wb) (hxy : x ≤ y) :
    Two w wb p q (nextMean M x) (nextMean R y) :=
  ⟨ha.sc.only hb.only (by have := h.ne; omega), hb.sc, nextMean_mono h.le hxy,
    below_sc (below_sc h.below ha h.hp h.below.size) hb h.hq (by have := ha.only.size; have := h.below.size; omega), h.ne, h.hp, h.hq,
    by have := ha.only.size; have := hb.only.size; have := h.lp; omega, by have := ha.only.size; have := hb.only.size; have := h.lq; omega⟩

set_option maxRecDepth 100000 in
set_option maxHeartbeats 1600000 in
theorem order_walk (a0 : Option Addr) (len0 cap0 : Nat) (z0 : List Int) (a1 : Option Addr) (len1 cap1 : Nat) (z1 : List Int) (a2 : Int) (w : World) (w0 : IsRow .i64 w a0 len0 cap0 z0) (w1 : IsRow .i64 w a1 len1 cap1 z1) (_w2 : (Lit.int .i64 a2).wf = true) :
    Calls Try.prog 6 #[.slice a0 len0 cap0, .slice a1 len1 cap1, .int .i64 a2] w fun e w' => e = .returned (.bool true) ∧ Below w.heap.size w w' := by
  clear _w2
  obtain ⟨hmax0, hr0⟩ := isRow_when w0
  obtain ⟨hmax1, hr1⟩ := isRow_when w1
  have HR0 := Lib.hid hr0
  have HR1 := Lib.hid hr1
  clear hr0 hr1 w0 w1
  go_enter Try.func6, Try.ntmps6
  go_wp2_with (first
    | (go_at_call 7; (with_reducible refine (new_any w).mono ?_); rintro e wn ⟨rfl, h1⟩)
    | (go_at_call 7; (with_reducible refine (new_any wn).mono ?_); rintro e wm ⟨rfl, h2⟩))
  go_loopw [20] (fun i wr => ∃ (k : Nat) (M R : Int), k ≤ len0 ∧ i = .int .i64 k ∧ Two w wr w.heap.size wn.heap.size M R) (fun i _ => len0 - (intOf i).toNat)
  case atStart =>
    have s1 := h1.size
    have s2 := h2.size
    exact ⟨0, 0, 0, Nat.zero_le _, rfl, h1.sc.below h2.below h1.sc.1.lt, h2.sc, Int.le_refl _, h1.below.trans (h2.below.mono (by omega)), by omega, by omega, by omega, by omega, by omega⟩
  case round =>
    obtain ⟨k, M, R, hk, rfl, ht⟩ := hrel
    have hsa := ht.a
    have hsb := ht.b
    have hle := ht.le
    have hM0 := hsa.2.1
    have hM1 := hsa.2.2
    have hR0 := hsb.2.1
    have hR1 := hsb.2.2
    by_cases hlt : k < len0
    · obtain ⟨b, off, rfl, hrow⟩ := HR0.out (by omega)
      have hcell := (hrow.below ht.below (Nat.le_refl _)).cell k hlt
      obtain ⟨x, hx⟩ : ∃ x, x = z0.getD k 0 := ⟨_, rfl⟩
      rw [← hx] at hcell
      clear hx hrow
      rcases (show (0 ≤ x ∧ x ≤ 1000000) ∨ (x < 0 ∨ 1000000 < x) by omega) with ⟨hx0, hx1⟩ | hxb
      · -- y: what the second host is told
        by_cases h1k : k < len1
        · obtain ⟨b1, off1, rfl, hrow1⟩ := HR1.out (by omega)
          have hcell1 := (hrow1.below ht.below (Nat.le_refl _)).cell k h1k
          obtain ⟨d, hd⟩ : ∃ d, d = z1.getD k 0 := ⟨_, rfl⟩
          rw [← hd] at hcell1
          clear hd hrow1
          by_cases hd0 : 0 < d
          · by_cases hd1 : d ≤ 1000000 - x
            · have hmono := nextMean_mono hle (show x ≤ x + d by omega)
              go_wp2_with (first
                | (go_at_call 9; (with_reducible refine (sample_yes _ _ hx0 hx1).mono ?_); rintro e w' ⟨rfl, rfl⟩)
                | (go_at_call_of 8 (Value.pointer (some ⟨w.heap.size, 0, none⟩)); (with_reducible refine (add_any _ _ _ _ hsa hx0 hx1).mono ?_); rintro e wa ⟨rfl, ha⟩; have hsb1 := hsb.only ha.only (by have := ht.ne; omega))
                | (go_at_call_of 8 (Value.pointer (some ⟨wn.heap.size, 0, none⟩)); (with_reducible refine (add_any _ _ _ _ hsb1 (by omega) (by omega)).mono ?_); rintro e wb ⟨rfl, hb⟩; have hta := ht.step ha hb (by omega); have hsa2 := hta.a; have hsb2 := hta.b)
                | (go_at_call_of 13 (Value.pointer (some ⟨w.heap.size, 0, none⟩)); (with_reducible refine (mean_any _ _ _ hsa2).mono ?_); rintro e w' ⟨rfl, rfl⟩)
                | (go_at_call_of 13 (Value.pointer (some ⟨wn.heap.size, 0, none⟩)); (with_reducible refine (mean_any _ _ _ hsb2).mono ?_); rintro e w' ⟨rfl, rfl⟩))
              go_roundw
              case rel => exact ⟨k + 1, _, _, by omega, by go_num, ht.step ha hb (by omega)⟩
              case measure => simp [intOf]; omega
            · have hmono := nextMean_mono hle (show x ≤ x by omega)
              go_wp2_with (first
                | (go_at_call 9; (with_reducible refine (sample_yes _ _ hx0 hx1).mono ?_); rintro e w' ⟨rfl, rfl⟩)
                | (go_at_call_of 8 (Value.pointer (some ⟨w.heap.size, 0, none⟩)); (with_reducible refine (add_any _ _ _ _ hsa hx0 hx1).mono ?_); rintro e wa ⟨rfl, ha⟩; have hsb1 := hsb.only ha.only (by have := ht.ne; omega))
                | (go_at_call_of 8 (Value.pointer (some ⟨wn.heap.size, 0, none⟩)); (with_reducible refine (add_any _ _ _ _ hsb1 (by omega) (by omega)).mono ?_); rintro e wb ⟨rfl, hb⟩; have hta := ht.step ha hb (by omega); have hsa2 := hta.a; have hsb2 := hta.b)
                | (go_at_call_of 13 (Value.pointer (some ⟨w.heap.size, 0, none⟩)); (with_reducible refine (mean_any _ _ _ hsa2).mono ?_); rintro e w' ⟨rfl, rfl⟩)
                | (go_at_call_of 13 (Value.pointer (some ⟨wn.heap.size, 0, none⟩)); (with_reducible refine (mean_any _ _ _ hsb2).mono ?_); rintro e w' ⟨rfl, rfl⟩))
              go_roundw
              case rel => exact ⟨k + 1, _, _, by omega, by go_num, ht.step ha hb (by omega)⟩
              case measure => simp [intOf]; omega
          · have hmono := nextMean_mono hle (show x ≤ x by omega)
            go_wp2_with (first
              | (go_at_call 9; (with_reducible refine (sample_yes _ _ hx0 hx1).mono ?_); rintro e w' ⟨rfl, rfl⟩)
              | (go_at_call_of 8 (Value.pointer (some ⟨w.heap.size, 0, none⟩)); (with_reducible refine (add_any _ _ _ _ hsa hx0 hx1).mono ?_); rintro e wa ⟨rfl, ha⟩; have hsb1 := hsb.only ha.only (by have := ht.ne; omega))
              | (go_at_call_of 8 (Value.pointer (some ⟨wn.heap.size, 0, none⟩)); (with_reducible refine (add_any _ _ _ _ hsb1 (by omega) (by omega)).mono ?_); rintro e wb ⟨rfl, hb⟩; have hta := ht.step ha hb (by omega); have hsa2 := hta.a; have hsb2 := hta.b)
              | (go_at_call_of 13 (Value.pointer (some ⟨w.heap.size, 0, none⟩)); (with_reducible refine (mean_any _ _ _ hsa2).mono ?_); rintro e w' ⟨rfl, rfl⟩)
              | (go_at_call_of 13 (Value.pointer (some ⟨wn.heap.size, 0, none⟩)); (with_reducible refine (mean_any _ _ _ hsb2).mono ?_); rintro e w' ⟨rfl, rfl⟩))
            go_roundw
            case rel => exact ⟨k + 1, _, _, by omega, by go_num, ht.step ha hb (by omega)⟩
            case measure => simp [intOf]; omega
        · have hmono := nextMean_mono hle (show x ≤ x by omega)
          go_wp2_with (first
            | (go_at_call 9; (with_reducible refine (sample_yes _ _ hx0 hx1).mono ?_); rintro e w' ⟨rfl, rfl⟩)
            | (go_at_call_of 8 (Value.pointer (some ⟨w.heap.size, 0, none⟩)); (with_reducible refine (add_any _ _ _ _ hsa hx0 hx1).mono ?_); rintro e wa ⟨rfl, ha⟩; have hsb1 := hsb.only ha.only (by have := ht.ne; omega))
            | (go_at_call_of 8 (Value.pointer (some ⟨wn.heap.size, 0, none⟩)); (with_reducible refine (add_any _ _ _ _ hsb1 (by omega) (by omega)).mono ?_); rintro e wb ⟨rfl, hb⟩; have hta := ht.step ha hb (by omega); have hsa2 := hta.a; have hsb2 := hta.b)
            | (go_at_call_of 13 (Value.pointer (some ⟨w.heap.size, 0, none⟩)); (with_reducible refine (mean_any _ _ _ hsa2).mono ?_); rintro e w' ⟨rfl, rfl⟩)
            | (go_at_call_of 13 (Value.pointer (some ⟨wn.heap.size, 0, none⟩)); (with_reducible refine (mean_any _ _ _ hsb2).mono ?_); rintro e w' ⟨rfl, rfl⟩))
          go_roundw
          case rel => exact ⟨k + 1, _, _, by omega, by go_num, ht.step ha hb (by omega)⟩
          case measure => simp [intOf]; omega
      · go_wp2_with (first
          | (go_at_call 9; (with_reducible refine (sample_no _ _ hxb).mono ?_); rintro e w' ⟨rfl, rfl⟩))
        go_roundw
        case rel => exact ⟨k + 1, _, _, by omega, by go_num, ht⟩
        case measure => simp [intOf]; omega
    · have hsz := ht.below.size
      rcases (show (0 ≤ a2 ∧ a2 ≤ 1000000) ∨ (a2 < 0 ∨ 1000000 < a2) by omega) with ⟨hr0, hr1⟩ | hrb
      · have hkey : (M + 1024) * (a2 + 1) ≤ (R + 1024) * (a2 + 1) := Int.mul_le_mul_of_nonneg_right (by omega) (by omega)
        go_wp2_with (first
          | (go_at_call_of 11 (Value.pointer (some ⟨w.heap.size, 0, none⟩)); (with_reducible refine (load_any _ _ _ _ hsa hr0 hr1).mono ?_); rintro e w' ⟨rfl, rfl⟩)
          | (go_at_call_of 11 (Value.pointer (some ⟨wn.heap.size, 0, none⟩)); (with_reducible refine (load_any _ _ _ _ hsb hr0 hr1).mono ?_); rintro e w' ⟨rfl, rfl⟩)
          | (go_at_call 14; (with_reducible refine (speaks_any _).mono ?_); rintro e w3 ⟨rfl, h3⟩))
        go_ret
        exact ⟨rfl, below_speaks ht.below h3 hsz⟩
      · go_wp2_with (first
          | (go_at_call 11; (with_reducible refine (load_bad _ _ _ hrb).mono ?_); rintro e w' ⟨rfl, rfl⟩)
          | (go_at_call 14; (with_reducible refine (speaks_any _).mono ?_); rintro e w3 ⟨rfl, h3⟩))
        go_ret
        exact ⟨rfl, below_speaks ht.below h3 hsz⟩
end Go.Proofs.Ytdflncklcpfcmaa
