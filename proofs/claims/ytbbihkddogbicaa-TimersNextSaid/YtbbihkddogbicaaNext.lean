/- TimersNext. -/
import Derived.Test.YtbbihkddogbicaaLaws1
namespace Go.Proofs.Ytbbihkddogbicaa
open Go.RowKit
set_option linter.unusedVariables false
set_option linter.unusedSimpArgs false

def NextI (w0 w : World) (p n : Nat) : Prop := ∃ ts used set, SM w0 w p 64 ts used set (.slice none 0 0) [] ∧ ts.length ≤ n ∧ set ≤ n ∧ set ≤ 64
def NextJ (w0 w : World) (p n : Nat) : Prop := ∃ ts used set, SM w0 w p 64 ts used set (.slice none 0 0) [] ∧ ts.length ≤ n

theorem stay_len {most set : Nat} {ts : List Tm} {used : List Nat} (h : Ok most ts used set) (now : Int) : (stay now ts).length ≤ ts.length := by
  rw [(h.stay_eq now).1]; exact List.length_filter_le _ _

section
variable {w0 w : World} {p n : Nat}
theorem nextI_new (h : SM w0 w p 64 [] [] 0 (.slice none 0 0) []) : NextI w0 w p 0 := ⟨[], [], 0, h, Nat.le_refl _, Nat.le_refl _, by omega⟩
theorem NextI.more (h : NextI w0 w p n) : NextI w0 w p (n + 1) := by
  obtain ⟨ts, used, set, h1, h2, h3, h4⟩ := h
  exact ⟨ts, used, set, h1, by omega, by omega, h4⟩
theorem NextI.below (h : NextI w0 w p n) : Below w0.heap.size w0 w := by obtain ⟨ts, used, set, h1, _⟩ := h; exact h1.below
theorem NextJ.below (h : NextJ w0 w p n) : Below w0.heap.size w0 w := by obtain ⟨ts, used, set, h1, _⟩ := h; exact h1.below
theorem NextI.go (h : NextI w0 w p n) : NextJ w0 w p 64 := by
  obtain ⟨ts, used, set, h1, h2, h3, h4⟩ := h
  exact ⟨ts, used, set, h1, by have := h1.ok.len; omega⟩
theorem nextI_set (h : NextI w0 w p n) (hn : n < 64) (at_ key : Int) :
    Calls Try.prog 11 #[.pointer (some ⟨p, 0, none⟩), .int .i64 at_, .int .i64 key] w fun e w' => ∃ a b, e = .returned (.tuple #[a, b]) ∧ NextI w0 w' p (n + 1) := by
  by_cases ha : 0 ≤ at_ ∧ at_ ≤ 4611686018427387904
  · obtain ⟨ts, used, set, h1, h2, h3, h4⟩ := h
    refine (sm_set h1 ha (by omega) (by omega)).mono ?_
    rintro e w' ⟨rfl, h⟩
    exact ⟨_, _, rfl, _, _, _, h, by rw [List.length_append, List.length_singleton]; omega, by omega, by omega⟩
  · refine (set_bad (by omega) _ key w).mono ?_
    rintro e w' ⟨rfl, rfl⟩
    exact ⟨_, _, rfl, h.more⟩
end

section
variable {w0 w : World} {p most : Nat} {ts : List Tm} {used : List Nat} {set : Nat} {v : Value} {l : List Int}
theorem nx_before (h : SM w0 w p most ts used set v l) {m : Int} (hm : m < (firstL ts).at_) :
    Calls Try.prog 18 #[.pointer (some ⟨p, 0, none⟩), .int .i64 m] w fun e w' => ∃ ao cap, e = .returned (.slice ao 0 cap) ∧ cap ≤ 9223372036854775807 ∧ SM w0 w' p most ts used set v l := by
  have hs := fire_stop (now := m) (ts := ts) (fun hh => by omega)
  have := sm_fire h m
  rw [hs.1, hs.2] at this
  refine this.mono ?_
  rintro e w' ⟨r, rfl, ⟨ao, cap, rfl, _, hc, _⟩, hS⟩
  exact ⟨ao, cap, rfl, hc, hS⟩
theorem nx_at (h : SM w0 w p most ts used set v l) (hne : ts ≠ []) {m : Int} (hm : m = (firstL ts).at_) :
    Calls Try.prog 18 #[.pointer (some ⟨p, 0, none⟩), .int .i64 m] w fun e w' => ∃ ao k cap ts', e = .returned (.slice ao k cap) ∧ 0 < k ∧ k ≤ cap ∧ cap ≤ 9223372036854775807 ∧ ts'.length < ts.length ∧ SM w0 w' p most ts' used set v l := by
  have hs := fire_step (now := m) (ts := ts) ⟨hne, by omega⟩
  have hok : Ok most (rest ts (firstL ts)) used set := h.ok.filter _
  have hl := stay_len hok m
  have hr := rest_lt hne
  refine (sm_fire h m).mono ?_
  rintro e w' ⟨r, rfl, ⟨ao, cap, rfl, hk, hc, _⟩, hS⟩
  exact ⟨ao, _, cap, _, rfl, by rw [hs.1]; simp, hk, hc, by rw [hs.2]; omega, hS⟩
end

set_option maxRecDepth 100000 in
set_option maxHeartbeats 800000 in
theorem next_walk (a0 : Option Addr) (len0 cap0 : Nat) (z0 : List Int) (w : World) (w0 : IsRow .i64 w a0 len0 cap0 z0) :
    Calls Try.prog 7 #[.slice a0 len0 cap0] w fun e w' => e = .returned (.bool true) ∧ Below w.heap.size w w' := by
  obtain ⟨hlm, hrow⟩ := isRow_when w0
  have HR := Lib.hid hrow
  clear w0 hrow
  obtain ⟨p, hp⟩ : ∃ p, p = w.heap.size := ⟨_, rfl⟩
  have hsn := sm_new w 64 64 rfl (by decide)
  rw [← hp] at hsn
  have HSN := Lib.hid hsn
  have HP := Lib.hid hp
  clear hsn hp
  go_enter Try.func7, Try.ntmps7
  go_wp2_with (go_at_call 8; (refine HSN.out.mono ?_); rintro e w1 ⟨rfl, hN⟩; have HN := Lib.hid (nextI_new hN); clear hN)
  go_loopw [5, 6, 22] (fun _ _ i wr => ∃ j : Nat, j ≤ len0 ∧ i = .int .i64 j ∧ NextI w wr p j) (fun _ _ i _ => len0 - (intOf i).toNat)
  case atStart => exact ⟨0, Nat.zero_le _, rfl, HN.out⟩
  case round =>
    obtain ⟨j, hj, rfl, hI⟩ := hrel
    have HI := Lib.hid hI
    clear hI
    by_cases hlt : j < len0
    · obtain ⟨b, off, rfl, hAt⟩ := HR.out (by omega)
      have cx := (hAt.below HI.out.below (Nat.le_refl _)).cell j hlt
      generalize z0.getD j 0 = x at cx
      clear hAt
      by_cases h64 : j < 64
      · have f1 : decide ((j : Int) < 64) = true := decide_eq_true (by omega)
        go_wp2_with (go_at_call 11; (with_reducible refine (nextI_set HI.out h64 x j).mono ?_); rintro e w2 ⟨ra, rb, rfl, hI2⟩; have HI2 := Lib.hid hI2; clear hI2)
        go_roundw
        case rel => exact ⟨j + 1, by omega, by go_num, HI2.out⟩
        case measure => simp [intOf]; omega
      · have f1 : decide ((j : Int) < 64) = false := decide_eq_false (by omega)
        go_wp2
        go_roundw
        case rel => exact ⟨j + 1, by omega, by go_num, HI.out.more⟩
        case measure => simp [intOf]; omega
    · go_wp2
      have HJ := Lib.hid HI.out.go
      go_loopw [7, 8, 9] (fun i _ _ wr => ∃ j : Nat, j ≤ 64 ∧ i = .int .i64 j ∧ NextJ w wr p (64 - j)) (fun i _ _ _ => 64 - (intOf i).toNat)
      case atStart => exact ⟨0, Nat.zero_le _, rfl, HJ.out⟩
      case round =>
        obtain ⟨k, hk, rfl, ts, used, set, hS, hl⟩ := hrel
        have HS := Lib.hid hS
        by_cases hne : ts = []
        · subst hne
          clear hS
          go_wp2_with (first
            | (go_at_call 20; (with_reducible refine (sm_next_none HS.out).mono ?_); rintro e w' ⟨rfl, rfl⟩)
            | (go_at_call 22; (with_reducible refine (sm_len HS.out).mono ?_); rintro e w' ⟨rfl, rfl⟩)
            | (go_at_call 10; (with_reducible refine (speaks_ok _).mono ?_); rintro e w3 ⟨rfl, hB⟩))
          go_ret
          exact ⟨rfl, HS.out.below.trans (hB.mono HS.out.size)⟩
        · have hm := hS.ok.at_ _ (first_mem hne)
          obtain ⟨n, hn⟩ : ∃ n, n = (firstL ts).at_ := ⟨_, rfl⟩
          rw [← hn] at hm
          have hns := sm_next_some hS hne
          rw [← hn] at hns
          have HNS := Lib.hid hns
          have HNN := Lib.hid hn
          have HNE := Lib.hid hne
          obtain ⟨hm1, hm2⟩ := hm
          have hl0 := List.length_pos_iff.2 hne
          clear hS hns hn hne
          go_wp2_with (first
            | (go_at_call 20; (refine HNS.out.mono ?_); rintro e w' ⟨rfl, rfl⟩)
            | (go_at_call 18; (with_reducible refine (nx_before HS.out (m := n - 1) (by rw [← HNN.out]; omega)).mono ?_); rintro e w3 ⟨ao, cap, rfl, hc, hS3⟩; have HS3 := Lib.hid hS3; clear hS3)
            | (go_at_call 18; (with_reducible refine (nx_at HS3.out HNE.out (m := n) HNN.out).mono ?_); rintro e w4 ⟨ao4, k4, cap4, ts4, rfl, h04, hk4, hc4, hl4, hS4⟩; have HS4 := Lib.hid hS4; have f4 : ((k4 : Int) == 0) = false := beq_eq_false_iff_ne.2 (by omega); clear hS4))
          go_roundw
          case rel => exact ⟨k + 1, by omega, by go_num, ts4, _, _, HS4.out, by omega⟩
          case measure => simp [intOf]; omega
end Go.Proofs.Ytbbihkddogbicaa
