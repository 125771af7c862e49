/- PoolFair. -/
import Derived.Test.YtmpcffkandmacaaFair0
namespace Go.Proofs.Ytmpcffkandmacaa
open Go.RowKit
set_option linter.unusedVariables false
set_option linter.unusedSimpArgs false

section
variable {w0 w : World} {p : Nat} {K : Kept} {R : List Rowd}
theorem fair_new (w : World) : Calls Try.prog 8 #[.int .i64 1, .int .i64 64, .int .i64 1000000, .int .i64 1000000] w fun e w' => ∃ p, e = .returned (.tuple #[ptr p, .int .i64 0]) ∧ Lq w w' p (fA 0) [] [] :=
  (new_ok 1 64 M M (okn_M ⟨rfl, rfl, rfl, rfl⟩) w).mono (by rintro e w' ⟨p, rfl, h⟩; exact ⟨p, rfl, lq_made h⟩)
theorem fair_ask {i : Nat} (h : Lq w0 w p (fA i) [] []) (hi : i < 60) : Calls Try.prog 9 #[ptr p, .int .i64 0, .int .i64 i] w fun e w' => ∃ a b c : Int, e = .returned (.tuple #[.agg #[.int .i64 a, .int .i64 b, .int .i64 c], .int .i64 0]) ∧ Lq w0 w' p (fA (i + 1)) [] [] := by
  have h9 := lq_ask h (fA_ok (Nat.le_of_lt hi)) (by decide) 0 i
  obtain ⟨a, ha⟩ := fA_ask (show i < 64 by omega)
  rw [ha] at h9
  exact h9.mono (by rintro e w' ⟨rfl, h⟩; exact ⟨a.kind, a.conn, a.who, rfl, h⟩)
theorem fair_up0 {n : Nat} (h : Lq w0 w p (fA n) [] []) (hn : 1 ≤ n) : Calls Try.prog 10 #[ptr p, .int .i64 0] w fun e w' => ∃ x y : Int, e = .returned (.tuple #[.int .i64 x, .int .i64 y]) ∧ Lq w0 w' p (fK n 0 0 0) [] [] := by
  have h9 := lq_up h 0
  obtain ⟨x, hx⟩ := fA_up hn
  rw [hx] at h9
  exact h9.mono (by rintro e w' ⟨rfl, h⟩; exact ⟨_, _, rfl, h⟩)
theorem fair_doneK {n i s nt : Nat} (h : Lq w0 w p (fK n i s nt) [] []) (hn : n ≤ 60) (hi : i + 1 < n) (hs : s ≤ 1) : Calls Try.prog 11 #[ptr p, .int .i64 1, .int .i64 0, .bool true] w fun e w' =>
    ∃ g cap, e = .returned (.tuple #[.slice (some ⟨g, 0, none⟩) 1 cap, .int .i64 0]) ∧ 1 ≤ cap ∧ cap ≤ 9223372036854775807 ∧ Lq w0 w' p (fK n (i + 1) 1 (i + 1)) [] [] ∧ w'.cell? ⟨g, 2, none⟩ = some (.int .i64 (i + 1 : Nat)) ∧ g < w'.heap.size := by
  have h9 := lq_done h (fK_ok hn (by omega) hs) (by decide) 1 0 true
  rw [fK_done hi] at h9
  refine h9.mono ?_
  rintro e w' ⟨v, rfl, h⟩
  obtain ⟨g, cap, C, rfl, _, hb, h1, h2, _⟩ := ownsRow_blk (h.rowA (List.mem_cons_self ..)) (by simp)
  exact ⟨g, cap, rfl, h1, by unfold maxLen at h2; omega, h.weak (fun _ h => h) (fun x hx => by cases hx), hb.cell 2 _ rfl, hb.lt⟩
theorem fair_doneC {n i b : Nat} (h : Lq w0 w p (fC n i b) [] []) (hn : n ≤ 60) (hi : i + 1 < n) (hb : b ≤ 1) : Calls Try.prog 11 #[ptr p, .int .i64 1, .int .i64 i, .bool false] w fun e w' =>
    ∃ g cap, e = .returned (.tuple #[.slice (some ⟨g, 0, none⟩) 2 cap, .int .i64 0]) ∧ 2 ≤ cap ∧ cap ≤ 9223372036854775807 ∧ Lq w0 w' p ⟨1, 64, M, M, i + 2, 0, [⟨i + 1, 0, ((i + 1 : Nat) : Int), 0, 1, 0⟩], W (i + 2) (n - (i + 2))⟩ [] [] ∧ w'.cell? ⟨g, 5, none⟩ = some (.int .i64 (i + 1 : Nat)) ∧ g < w'.heap.size := by
  have h9 := lq_done h (fC_ok hn (by omega) hb) (by decide) 1 i false
  rw [fC_done hi hb] at h9
  refine h9.mono ?_
  rintro e w' ⟨v, rfl, h⟩
  obtain ⟨g, cap, C, rfl, _, hb, h1, h2, _⟩ := ownsRow_blk (h.rowA (List.mem_cons_self ..)) (by simp)
  exact ⟨g, cap, rfl, h1, by unfold maxLen at h2; omega, h.weak (fun _ h => h) (fun x hx => by cases hx), hb.cell 5 _ rfl, hb.lt⟩
theorem fair_upC {n i : Nat} (h : Lq w0 w p ⟨1, 64, M, M, i + 2, 0, [⟨i + 1, 0, ((i + 1 : Nat) : Int), 0, 1, 0⟩], W (i + 2) (n - (i + 2))⟩ [] []) : Calls Try.prog 10 #[ptr p, .int .i64 ((i : Int) + 1)] w fun e w' => e = .returned (.tuple #[.int .i64 ((i : Int) + 1), .int .i64 0]) ∧ Lq w0 w' p (fC n (i + 1) 1) [] [] := by
  have h9 := lq_up h ((i + 1 : Nat) : Int)
  rw [fC_up] at h9
  exact h9
theorem fair_sizeK {n s nt : Nat} (h : Lq w0 w p (fK n (n - 1) s nt) [] []) (hn : 1 ≤ n) : Calls Try.prog 12 #[ptr p] w fun e w' => ∃ a b : Int, e = .returned (.tuple #[.int .i64 a, .int .i64 b, .int .i64 0]) ∧ Below w0.heap.size w0 w' := by
  refine (lq_size h).mono ?_
  rintro e w' ⟨rfl, h⟩
  have : (fK n (n - 1) s nt).waits.length = 0 := by show (W _ _).length = 0; rw [W_len]; omega
  rw [this]
  exact ⟨_, _, rfl, h.below⟩
theorem fair_sizeC {n b : Nat} (h : Lq w0 w p (fC n (n - 1) b) [] []) (hn : 1 ≤ n) : Calls Try.prog 12 #[ptr p] w fun e w' => ∃ a b : Int, e = .returned (.tuple #[.int .i64 a, .int .i64 b, .int .i64 0]) ∧ Below w0.heap.size w0 w' := by
  refine (lq_size h).mono ?_
  rintro e w' ⟨rfl, h⟩
  have : (fC n (n - 1) b).waits.length = 0 := by show (W _ _).length = 0; rw [W_len]; omega
  rw [this]
  exact ⟨_, _, rfl, h.below⟩
end
set_option maxRecDepth 100000 in
set_option maxHeartbeats 1600000 in
theorem fair_walk (a0 : Int) (a1 : Bool) (w : World) (w0 : (Lit.int .i64 a0).wf = true) :
    Calls Try.prog 3 #[.int .i64 a0, .bool a1] w fun e w' => e = .returned (.bool true) ∧ Below w.heap.size w w' := by
  clear w0
  have z27 := zero27
  obtain ⟨n, hn1, hn2, hcase⟩ : ∃ n : Nat, 1 ≤ n ∧ n ≤ 60 ∧ (a0 < 1 ∧ n = 5 ∨ (1 ≤ a0 ∧ 60 < a0) ∧ n = 5 ∨ a0 = n) := by
    by_cases h1 : a0 < 1
    · exact ⟨5, by decide, by decide, .inl ⟨h1, rfl⟩⟩
    · by_cases h2 : 60 < a0
      · exact ⟨5, by decide, by decide, .inr (.inl ⟨⟨by omega, h2⟩, rfl⟩)⟩
      · exact ⟨a0.toNat, by omega, by omega, .inr (.inr (by omega))⟩
  rcases hcase with ⟨h1, hn⟩ | ⟨⟨h1, h2⟩, hn⟩ | rfl
  all_goals
    go_enter Try.func3, Try.ntmps3
    go_upto_region 7 with (go_at_call 8; (with_reducible refine (fair_new w).mono ?_); rintro e w1 ⟨p, rfl, hN⟩; have HN := Lib.hid hN; clear hN)
    (try rw [show Value.int .i64 5 = Value.int .i64 (n : Nat) from by rw [hn]; rfl])
    (try clear hn)
    go_loopw [7, 8, 9] (fun i _ _ wr => ∃ j : Nat, j ≤ n ∧ i = .int .i64 j ∧ Lq w wr p (fA j) [] []) (fun i _ _ _ => n - (intOf i).toNat)
    case atStart => exact ⟨0, Nat.zero_le _, rfl, HN.out⟩
    case round =>
      obtain ⟨j, hj, rfl, hL⟩ := hrel
      have HL := Lib.hid hL
      clear hL
      by_cases hlt : j < n
      · go_upto_region 10 with (go_at_call 9; (with_reducible refine (fair_ask HL.out (by omega)).mono ?_); rintro e w2 ⟨a, b, c, rfl, hA⟩; have HA := Lib.hid (hA.only0 ((Only.refl (fun _ => False) w2).alloc (Obj.cells #[.int .i64 a, .int .i64 b, .int .i64 c] 27))); clear hA)
        go_wp2
        go_roundw
        case rel => exact ⟨j + 1, by omega, by go_num, HA.out⟩
        case measure => simp [intOf]; omega
      · have hjn : j = n := by omega
        subst hjn
        cases a1 with
        | true =>
          go_upto_region 15 with (go_at_call 10; (with_reducible refine (fair_up0 HL.out hn1).mono ?_); rintro e w2 ⟨x, y, rfl, hB⟩; have HB := Lib.hid hB; clear hB)
          go_loopw [10, 11, 12, 13, 14, 15] (fun c i _ _ _ _ wr => ∃ m s nt : Nat, m + 1 ≤ j ∧ s ≤ 1 ∧ c = .int .i64 0 ∧ i = .int .i64 (m + 1 : Nat) ∧ Lq w wr p (fK j m s nt) [] []) (fun _ i _ _ _ _ _ => j - (intOf i).toNat)
          case atStart => exact ⟨0, 0, 0, hn1, by decide, rfl, rfl, HB.out⟩
          case round =>
            obtain ⟨m, s, nt, hm, hs, rfl, rfl, hL⟩ := hrel
            have HL2 := Lib.hid hL
            clear hL
            by_cases hlt2 : m + 1 < j
            · go_wp2_with (go_at_call 11; (with_reducible refine (fair_doneK HL2.out hn2 hlt2 hs).mono ?_); rintro e w3 ⟨g, cap, rfl, hc1, hc2, hD, d2, hgl⟩; have HD := Lib.hid hD; clear hD)
              go_roundw
              case rel => exact ⟨m + 1, 1, m + 1, hlt2, Nat.le_refl _, rfl, by go_num, HD.out⟩
              case measure => simp [intOf]; omega
            · have hmj : j = m + 1 := by omega
              subst hmj
              go_wp2_with (first
                | (go_at_call 12; (refine (fair_sizeK (n := m + 1) HL2.out hn1).mono ?_); rintro e w3 ⟨a, b, rfl, hB⟩; have HB3 := Lib.hid hB; clear hB)
                | (go_at_call 13; (with_reducible refine (speaks_ok _).mono ?_); rintro e w5 ⟨rfl, hS⟩))
              go_ret
              exact ⟨rfl, HB3.out.trans (hS.mono HB3.out.size)⟩
        | false =>
          go_upto_region 15 with (go_at_call 10; (with_reducible refine (fair_up0 HL.out hn1).mono ?_); rintro e w2 ⟨x, y, rfl, hB⟩; have HB := Lib.hid hB; clear hB)
          go_loopw [10, 11, 12, 13, 14, 15] (fun c i _ _ _ _ wr => ∃ m b : Nat, m + 1 ≤ j ∧ b ≤ 1 ∧ c = .int .i64 (m : Nat) ∧ i = .int .i64 (m + 1 : Nat) ∧ Lq w wr p (fC j m b) [] []) (fun _ i _ _ _ _ _ => j - (intOf i).toNat)
          case atStart => exact ⟨0, 0, hn1, by decide, rfl, rfl, HB.out⟩
          case round =>
            obtain ⟨m, b, hm, hb, rfl, rfl, hL⟩ := hrel
            have HL2 := Lib.hid hL
            clear hL
            by_cases hlt2 : m + 1 < j
            · go_wp2_with (first
                | (go_at_call 11; (with_reducible refine (fair_doneC HL2.out hn2 hlt2 hb).mono ?_); rintro e w3 ⟨g, cap, rfl, hc1, hc2, hD, d2, hgl⟩; have HD := Lib.hid hD; clear hD)
                | (go_at_call 10; (refine (fair_upC HD.out).mono ?_); rintro e w4 ⟨rfl, hE⟩; have HE := Lib.hid hE; clear hE))
              go_roundw
              case rel => exact ⟨m + 1, 1, hlt2, Nat.le_refl _, by go_num, by go_num, HE.out⟩
              case measure => simp [intOf]; omega
            · have hmj : j = m + 1 := by omega
              subst hmj
              go_wp2_with (first
                | (go_at_call 12; (refine (fair_sizeC (n := m + 1) HL2.out hn1).mono ?_); rintro e w3 ⟨a, b, rfl, hB⟩; have HB3 := Lib.hid hB; clear hB)
                | (go_at_call 13; (with_reducible refine (speaks_ok _).mono ?_); rintro e w5 ⟨rfl, hS⟩))
              go_ret
              exact ⟨rfl, HB3.out.trans (hS.mono HB3.out.size)⟩
end Go.Proofs.Ytmpcffkandmacaa
