/- TimersStale. -/
import Derived.Test.YtbbihkddogbicaaLaws1
namespace Go.Proofs.Ytbbihkddogbicaa
open Go.RowKit
set_option linter.unusedVariables false
set_option linter.unusedSimpArgs false

def usedN (n : Nat) : List Nat := if n = 0 then [] else [n]
def tmN (at_ : Int) (n : Nat) : Tm := ⟨at_, n + 1, 0, 0, n + 1⟩
def oldL (n : Nat) : List Int := (List.range n).map fun i => (((i + 1) * 4096 : Nat) : Int)
theorem length_oldL (n : Nat) : (oldL n).length = n := by simp [oldL]
theorem oldL_get {n i : Nat} (h : i < n) : (oldL n).getD i 0 = (((i + 1) * 4096 : Nat) : Int) := by simp [oldL, List.getD_eq_getElem?_getD, h]
theorem oldL_succ (n : Nat) : oldL (n + 1) = oldL n ++ [(((n + 1) * 4096 : Nat) : Int)] := by simp [oldL, List.range_succ]
theorem new_n (at_ : Int) (n : Nat) : newOf [] (usedN n) n at_ 0 = tmN at_ n ∧ usedOf [] (usedN n) = usedN (n + 1) := by
  unfold usedN
  by_cases h : n = 0
  · subst h
    rw [if_pos rfl, if_neg (by omega)]
    exact ⟨rfl, rfl⟩
  · rw [if_neg h, if_neg (by omega)]
    exact ⟨rfl, rfl⟩
theorem handle_n (at_ : Int) (n : Nat) : (tmN at_ n).handle = (n + 1) * 4096 := by simp [tmN, Tm.handle]
theorem has_n (at_ : Int) (n : Nat) (k : Int) : has [tmN at_ n] k = ((((n + 1) * 4096 : Nat) : Int) == k) := by
  unfold has
  rw [List.any_cons, List.any_nil, Bool.or_false, handle_n]
theorem without_n (at_ : Int) (n : Nat) : without [tmN at_ n] (((n + 1) * 4096 : Nat) : Int) = [] := by
  unfold without
  rw [List.filter_cons_of_neg (by rw [handle_n]; simp), List.filter_nil]
theorem fire_n (at_ : Int) (n : Nat) : fire at_ [tmN at_ n] = [tmN at_ n] ∧ stay at_ [tmN at_ n] = [] := by
  have h1 := fire_step (now := at_) (ts := [tmN at_ n]) ⟨by simp, Int.le_refl _⟩
  have e1 : firstL [tmN at_ n] = tmN at_ n := rfl
  have e2 : rest [tmN at_ n] (tmN at_ n) = [] := by
    unfold rest
    rw [List.filter_cons_of_neg (by simp), List.filter_nil]
  rw [e1, e2] at h1
  have h2 := fire_stop (now := at_) (ts := []) (by simp)
  rw [h1.1, h1.2, h2.1, h2.2]
  exact ⟨rfl, rfl⟩

section
variable {w0 w : World} {p n : Nat} {v : Value} {l : List Int} {at_ : Int}
def StI (w0 w : World) (p n : Nat) (v : Value) : Prop := SM w0 w p 8 [] (usedN n) n v (oldL n)
def StJ (w0 w : World) (p n : Nat) (at_ : Int) (v : Value) : Prop := SM w0 w p 8 [tmN at_ n] (usedN (n + 1)) (n + 1) v (oldL n)
def StK (w0 w : World) (p n : Nat) (v : Value) : Prop := SM w0 w p 8 [] (usedN (n + 1)) (n + 1) v (oldL n)
theorem st_set (h : StI w0 w p n v) (ha : 0 ≤ at_ ∧ at_ ≤ 4611686018427387904) (hn : n ≤ 1125899906842624) :
    Calls Try.prog 11 #[.pointer (some ⟨p, 0, none⟩), .int .i64 at_, .int .i64 0] w fun e w' => e = .returned (.tuple #[.int .i64 (((n + 1) * 4096 : Nat) : Int), .int .i64 0]) ∧ StJ w0 w' p n at_ v := by
  have := sm_set h (key := 0) ha (show ([] : List Tm).length < 8 by decide) hn
  rw [(new_n at_ n).1, (new_n at_ n).2, handle_n] at this
  exact this
theorem st_has (h : StJ w0 w p n at_ v) {x : Int} (hx : x ≤ 9223372036854775807) (hne : x ≠ (((n + 1) * 4096 : Nat) : Int)) :
    Calls Try.prog 13 #[.pointer (some ⟨p, 0, none⟩), .int .i64 x] w fun e w' => e = .returned (.bool false) ∧ StJ w0 w' p n at_ v := by
  have := sm_has h x hx
  rw [has_n, beq_eq_false_iff_ne.2 (Ne.symm hne)] at this
  refine this.mono ?_
  rintro e w' ⟨rfl, hO⟩
  exact ⟨rfl, SM.only h hO⟩
theorem st_cancel (h : StJ w0 w p n at_ v) (hx : (((n + 1) * 4096 : Nat) : Int) ≤ 9223372036854775807) :
    Calls Try.prog 15 #[.pointer (some ⟨p, 0, none⟩), .int .i64 (((n + 1) * 4096 : Nat) : Int)] w fun e w' => e = .returned (.bool true) ∧ StK w0 w' p n v := by
  have := sm_cancel h _ hx
  rw [has_n, without_n, beq_self_eq_true] at this
  exact this
theorem st_fire (h : StJ w0 w p n at_ v) :
    Calls Try.prog 18 #[.pointer (some ⟨p, 0, none⟩), .int .i64 at_] w fun e w' => ∃ ao cap, e = .returned (.slice ao 1 cap) ∧ cap ≤ 9223372036854775807 ∧ StK w0 w' p n v := by
  have := sm_fire h at_
  rw [(fire_n at_ n).1, (fire_n at_ n).2] at this
  refine this.mono ?_
  rintro e w' ⟨r, rfl, ⟨ao, cap, rfl, _, hc, _⟩, hS⟩
  exact ⟨ao, cap, rfl, hc, hS⟩
theorem st_has0 (h : StI w0 w p n v) {x : Int} (hx : x ≤ 9223372036854775807) :
    Calls Try.prog 13 #[.pointer (some ⟨p, 0, none⟩), .int .i64 x] w fun e w' => e = .returned (.bool false) ∧ StI w0 w' p n v := by
  refine (sm_has h x hx).mono ?_
  rintro e w' ⟨rfl, hO⟩
  exact ⟨rfl, SM.only h hO⟩
theorem st_cancel0 (h : StI w0 w p n v) {x : Int} (hx : x ≤ 9223372036854775807) :
    Calls Try.prog 15 #[.pointer (some ⟨p, 0, none⟩), .int .i64 x] w fun e w' => e = .returned (.bool false) ∧ StI w0 w' p n v := sm_cancel h x hx
theorem st_len0 (h : StI w0 w p n v) : Calls Try.prog 22 #[.pointer (some ⟨p, 0, none⟩)] w fun e w' => e = .returned (.int .i64 0) ∧ w = w' := sm_len h
end

set_option maxRecDepth 100000 in
set_option maxHeartbeats 800000 in
theorem stale_walk (a0 : Option Addr) (len0 cap0 : Nat) (z0 : List Int) (a1 : Bool) (w : World) (w0 : IsRow .i64 w a0 len0 cap0 z0) (hr : cap0 * 8 ≤ 140737488351232) :
    Calls Try.prog 5 #[.slice a0 len0 cap0, .bool a1] w fun e w' => e = .returned (.bool true) ∧ Below w.heap.size w w' := by
  obtain ⟨i3, hi3, hz30, hz31, hz32⟩ := info_parts Try.info3
  have hlc : len0 ≤ cap0 := by
    rcases w0 with ⟨_, rfl, rfl, _⟩ | ⟨x, _, h1, _⟩
    · exact Nat.le_refl _
    · exact h1
  have hbig : len0 * 8 ≤ 140737488351232 := by omega
  obtain ⟨hlm, hrow⟩ := isRow_when w0
  have HR := Lib.hid hrow
  clear w0 hrow hr
  obtain ⟨p, hp⟩ : ∃ p, p = w.heap.size := ⟨_, rfl⟩
  have hsn := sm_new w 8 8 rfl (by decide)
  rw [← hp] at hsn
  have HSN := Lib.hid hsn
  have HP := Lib.hid hp
  clear hsn hp
  go_enter Try.func5, Try.ntmps5
  go_wp2_with (go_at_call 8; (refine HSN.out.mono ?_); rintro e w1 ⟨rfl, hN⟩; have HN := Lib.hid (hN : StI w w1 p 0 (.slice none 0 0)); clear hN)
  go_loopw [7, 9, 10, 11, 28] (fun v _ _ _ i wr => ∃ j n : Nat, j ≤ len0 ∧ n ≤ j ∧ i = .int .i64 j ∧ StI w wr p n v) (fun _ _ _ _ i _ => len0 - (intOf i).toNat)
  case atStart => exact ⟨0, 0, Nat.zero_le _, Nat.zero_le _, rfl, HN.out⟩
  case round =>
    obtain ⟨j, n, hj, hnj, rfl, hI⟩ := hrel
    obtain ⟨ao, bc, rfl, hbc1, hbc2, _⟩ := hI.irow
    rw [length_oldL] at hbc1 hI ⊢
    have HI := Lib.hid hI
    clear hI
    by_cases hlt : j < len0
    · obtain ⟨b, off, rfl, hAt⟩ := HR.out (by omega)
      have cx := (hAt.below HI.out.below (Nat.le_refl _)).cell j hlt
      generalize z0.getD j 0 = x at cx
      clear hAt
      by_cases ha : 0 ≤ x ∧ x ≤ 4611686018427387904
      · have HA := Lib.hid ha
        clear ha
        have hn50 : n ≤ 1125899906842624 := by omega
        obtain ⟨h, hh⟩ : ∃ h : Int, h = (((n + 1) * 4096 : Nat) : Int) := ⟨_, rfl⟩
        have hh1 : 0 ≤ h ∧ h ≤ 4611686018427387904 := by omega
        obtain ⟨hh1, hh2⟩ := hh1
        have hset := st_set HI.out HA.out hn50
        rw [← hh] at hset
        have HSET := Lib.hid hset
        have HH := Lib.hid hh
        clear hset hh
        go_wp2_with (go_at_call 11; (refine HSET.out.mono ?_); rintro e w2 ⟨rfl, hJ⟩; have HJ := Lib.hid hJ; clear hJ)
        go_loopw [13, 42] (fun _ i wr => ∃ k : Nat, k ≤ n ∧ i = .int .i64 k ∧ StJ w wr p n x (.slice ao n bc)) (fun _ i _ => n - (intOf i).toNat)
        case atStart => exact ⟨0, Nat.zero_le _, rfl, HJ.out⟩
        case round =>
          obtain ⟨k, hk, rfl, hJ3⟩ := hrel
          have HJ3 := Lib.hid hJ3
          clear hJ3
          by_cases hkn : k < n
          · obtain ⟨_, _, e3, _, _, g3⟩ := SM.irow HJ3.out
            obtain ⟨g, rfl, _, cg⟩ := g3 (by rw [length_oldL]; omega)
            replace cg := cg k (by rw [length_oldL]; exact hkn)
            injection e3 with e3 e4 e5
            clear e4 e5
            subst e3
            rw [oldL_get hkn] at cg
            obtain ⟨y, hy⟩ : ∃ y : Int, y = (((k + 1) * 4096 : Nat) : Int) := ⟨_, rfl⟩
            rw [← hy] at cg
            have hyh : y ≠ (((n + 1) * 4096 : Nat) : Int) := by omega
            have f1 : (y == h) = false := beq_eq_false_iff_ne.2 (by rw [HH.out]; exact hyh)
            have hy2 : y ≤ 9223372036854775807 := by omega
            have HY := Lib.hid hyh
            clear g3 hy hyh
            go_wp2_with (go_at_call 13; (with_reducible refine (st_has HJ3.out hy2 HY.out).mono ?_); rintro e w4 ⟨rfl, hJ4⟩; have HJ4 := Lib.hid hJ4; clear hJ4)
            go_roundw
            case rel => exact ⟨k + 1, by omega, by go_num, HJ4.out⟩
            case measure => simp [intOf]; omega
          · have hcan := st_cancel HJ3.out (by omega)
            rw [← HH.out] at hcan
            have HC := Lib.hid hcan
            clear hcan
            cases a1 with
            | true =>
              go_wp2_with (first
                | (go_at_call 15; (refine HC.out.mono ?_); rintro e w4 ⟨rfl, hK⟩; have HK := Lib.hid hK; clear hK)
                | (at_builtin; refine wpList_append_row rfl (.tmp 73) (.tmp 75) 31 rfl w.heap.size 3 i3 (.int .i64 0) 1 8 Try.underlying31 hi3 hz30 hz31 hz32 rfl (by decide) (.slice ao n bc) n (ints (oldL n)) rfl ((by have := SM.row HK.out; rw [length_oldL] at this; exact this.alloc _)) _ 1 1 [.int .i64 h] rfl rfl (fun _ => ⟨_, rfl, new_one _ _ _⟩) (fun e => by cases e) (one_int _ _) (by unfold maxLen; omega) (by omega) (by have := SM.size HK.out; simp only [World.size_alloc]; omega) ?_))
              intro v2 w5 hown2 hon2 hat2 _
              rw [HH.out] at hown2
              have hi2 := SM.app HK.out (by rw [length_oldL]; exact hown2) hon2 hat2
              rw [← oldL_succ] at hi2
              obtain ⟨a2, k2, rfl, _, _, _⟩ := hi2.irow
              have HI2 := Lib.hid hi2
              clear hi2 hown2 hon2 hat2
              go_wp2_with fail
              go_roundw
              case rel => exact ⟨j + 1, n + 1, by omega, by omega, by go_num, HI2.out⟩
              case measure => simp [intOf]; omega
            | false =>
              go_wp2_with (first
                | (go_at_call 18; (with_reducible refine (st_fire HJ3.out).mono ?_); rintro e w4 ⟨fo, fc, rfl, hfc, hK⟩; have HK := Lib.hid hK; clear hK)
                | (at_builtin; refine wpList_append_row rfl (.tmp 73) (.tmp 75) 31 rfl w.heap.size 3 i3 (.int .i64 0) 1 8 Try.underlying31 hi3 hz30 hz31 hz32 rfl (by decide) (.slice ao n bc) n (ints (oldL n)) rfl ((by have := SM.row HK.out; rw [length_oldL] at this; exact this.alloc _)) _ 1 1 [.int .i64 h] rfl rfl (fun _ => ⟨_, rfl, new_one _ _ _⟩) (fun e => by cases e) (one_int _ _) (by unfold maxLen; omega) (by omega) (by have := SM.size HK.out; simp only [World.size_alloc]; omega) ?_))
              intro v2 w5 hown2 hon2 hat2 _
              rw [HH.out] at hown2
              have hi2 := SM.app HK.out (by rw [length_oldL]; exact hown2) hon2 hat2
              rw [← oldL_succ] at hi2
              obtain ⟨a2, k2, rfl, _, _, _⟩ := hi2.irow
              have HI2 := Lib.hid hi2
              clear hi2 hown2 hon2 hat2
              go_wp2_with fail
              go_roundw
              case rel => exact ⟨j + 1, n + 1, by omega, by omega, by go_num, HI2.out⟩
              case measure => simp [intOf]; omega
      · have hb : x < 0 ∨ 4611686018427387904 < x := by omega
        have HB := Lib.hid hb
        clear hb ha
        go_wp2_with (go_at_call 11; (with_reducible refine (set_bad HB.out _ 0 _).mono ?_); rintro e w2 ⟨rfl, rfl⟩)
        go_roundw
        case rel => exact ⟨j + 1, n, by omega, by omega, by go_num, HI.out⟩
        case measure => simp [intOf]; omega
    · go_wp2
      go_loopw [15, 80] (fun _ i wr => ∃ k : Nat, k ≤ n ∧ i = .int .i64 k ∧ StI w wr p n (.slice ao n bc)) (fun _ i _ => n - (intOf i).toNat)
      case atStart => exact ⟨0, Nat.zero_le _, rfl, HI.out⟩
      case round =>
        obtain ⟨k, hk, rfl, hJ3⟩ := hrel
        have HJ3 := Lib.hid hJ3
        clear hJ3
        by_cases hkn : k < n
        · obtain ⟨_, _, e3, _, _, g3⟩ := SM.irow HJ3.out
          obtain ⟨g, rfl, _, cg⟩ := g3 (by rw [length_oldL]; omega)
          replace cg := cg k (by rw [length_oldL]; exact hkn)
          injection e3 with e3 e4 e5
          clear e4 e5
          subst e3
          rw [oldL_get hkn] at cg
          obtain ⟨y, hy⟩ : ∃ y : Int, y = (((k + 1) * 4096 : Nat) : Int) := ⟨_, rfl⟩
          rw [← hy] at cg
          have hy2 : y ≤ 9223372036854775807 := by omega
          clear g3 hy
          go_wp2_with (first
            | (go_at_call 15; (with_reducible refine (st_cancel0 HJ3.out hy2).mono ?_); rintro e w4 ⟨rfl, hJ4⟩; have HJ4 := Lib.hid hJ4; clear hJ4)
            | (go_at_call 13; (with_reducible refine (st_has0 HJ4.out hy2).mono ?_); rintro e w5 ⟨rfl, hJ5⟩; have HJ5 := Lib.hid hJ5; clear hJ5))
          go_roundw
          case rel => exact ⟨k + 1, by omega, by go_num, HJ5.out⟩
          case measure => simp [intOf]; omega
        · go_wp2_with (first
            | (go_at_call 22; (with_reducible refine (st_len0 HJ3.out).mono ?_); rintro e w' ⟨rfl, rfl⟩)
            | (go_at_call 10; (with_reducible refine (speaks_ok _).mono ?_); rintro e w3 ⟨rfl, hB⟩))
          go_ret
          exact ⟨rfl, (SM.below HJ3.out).trans (hB.mono (SM.size HJ3.out))⟩
end Go.Proofs.Ytbbihkddogbicaa
