/- TimersOrder: the walk. -/
import Derived.Test.YtbbihkddogbicaaOrder
namespace Go.Proofs.Ytbbihkddogbicaa
open Go.RowKit
set_option linter.unusedVariables false
set_option linter.unusedSimpArgs false

set_option maxRecDepth 100000 in
set_option maxHeartbeats 1600000 in
theorem order_walk (a0 : Option Addr) (len0 cap0 : Nat) (z0 : List Int) (a1 : Int) (w : World) (w0 : IsRow .i64 w a0 len0 cap0 z0) (w1 : (Lit.int .i64 a1).wf = true) :
    Calls Try.prog 4 #[.slice a0 len0 cap0, .int .i64 a1] w fun e w' => e = .returned (.bool true) ∧ Below w.heap.size w w' := by
  obtain ⟨i3, hi3, hz30, hz31, hz32⟩ := info_parts Try.info3
  obtain ⟨hlm, hrow⟩ := isRow_when w0
  have HR := Lib.hid hrow
  clear w0 hrow w1
  obtain ⟨p, hp⟩ : ∃ p, p = w.heap.size := ⟨_, rfl⟩
  have hsn := sm_new w 4096 4096 rfl (by decide)
  rw [← hp] at hsn
  have HSN := Lib.hid hsn
  have HP := Lib.hid hp
  clear hsn hp
  go_enter Try.func4, Try.ntmps4
  go_wp2_with (go_at_call 8; (refine HSN.out.mono ?_); rintro e w1 ⟨rfl, hN⟩; have HN := Lib.hid (⟨⟨_, hN⟩, fun i hi => absurd hi (by simp)⟩ : OrdI w w1 p (.slice none 0 0) []); clear hN)
  go_loopw [7, 9, 10, 11, 30] (fun v _ _ _ i wr => ∃ (j : Nat) (ts : List Tm), j ≤ len0 ∧ i = .int .i64 j ∧ OrdI w wr p v ts) (fun _ _ _ _ i _ => len0 - (intOf i).toNat)
  case atStart => exact ⟨0, [], Nat.zero_le _, rfl, HN.out⟩
  case round =>
    obtain ⟨j, ts, hj, rfl, hI⟩ := hrel
    obtain ⟨ao, bc, rfl, hbc1, hbc2, _⟩ := hI.irow
    have hlen := hI.len
    rw [length_ats] at hbc1 hI ⊢
    have HI := Lib.hid hI
    clear hI
    obtain ⟨n, hn⟩ : ∃ n, n = ts.length := ⟨_, rfl⟩
    rw [← hn] at hbc1 hlen HI ⊢
    have HNN := Lib.hid hn
    clear hn
    by_cases hlt : j < len0
    · obtain ⟨b, off, rfl, hAt⟩ := HR.out (by omega)
      have cx := (hAt.below HI.out.below (Nat.le_refl _)).cell j hlt
      generalize z0.getD j 0 = x at cx
      clear hAt
      by_cases ha : 0 ≤ x ∧ x ≤ 4611686018427387904
      · obtain ⟨ha1, ha2⟩ := ha
        by_cases h4 : n < 4096
        · have f1 : decide ((n : Int) < 4096) = true := decide_eq_true (by omega)
          have hset := ord_set HI.out ⟨ha1, ha2⟩ (by rw [← HNN.out]; exact h4)
          rw [← HNN.out] at hset
          have HSET := Lib.hid hset
          clear hset
          go_wp2_with (first
            | (go_at_call 23; (with_reducible refine (rmoment_ok x _ ha1 ha2).mono ?_); rintro e w' ⟨rfl, rfl⟩)
            | (go_at_call 11; (refine HSET.out.mono ?_); rintro e w2 ⟨rr, rfl, hJ⟩; have HJ := Lib.hid hJ; clear hJ)
            | (at_builtin; refine wpList_append_row rfl (.tmp 51) (.tmp 53) 31 rfl w.heap.size 3 i3 (.int .i64 0) 1 8 Try.underlying31 hi3 hz30 hz31 hz32 rfl (by decide) (.slice ao n bc) n (ints (ats ts)) rfl ((by have := HJ.out.row; rw [← HNN.out] at this; exact this.alloc _)) _ 1 1 [.int .i64 x] rfl rfl (fun _ => ⟨_, rfl, new_one _ _ _⟩) (fun e => by cases e) (one_int _ _) (by unfold maxLen; omega) (by omega) (by have := HJ.out.size; simp only [World.size_alloc]; omega) ?_))
          intro v2 w5 hown2 hon2 hat2 _
          obtain ⟨ts', ht', hi2⟩ := HJ.out.app (by rw [← HNN.out]; exact hown2) hon2 hat2
          rw [← HNN.out] at ht'
          obtain ⟨a2, k2, rfl, _, _, _⟩ := hi2.irow
          rw [length_ats] at hi2
          have HI2 := Lib.hid hi2
          have HT := Lib.hid ht'
          clear hi2 hown2 hon2 hat2 ht'
          go_wp2_with fail
          go_roundw
          case rel => exact ⟨j + 1, ts', by omega, by go_num, by rw [length_ats]; exact HI2.out⟩
          case measure => simp [intOf]; omega
        · have f1 : decide ((n : Int) < 4096) = false := decide_eq_false (by omega)
          go_wp2_with (go_at_call 23; (with_reducible refine (rmoment_ok x _ ha1 ha2).mono ?_); rintro e w' ⟨rfl, rfl⟩)
          go_roundw
          case rel => exact ⟨j + 1, ts, by omega, by go_num, HI.out⟩
          case measure => simp [intOf]; omega
      · have hb : x < 0 ∨ 4611686018427387904 < x := by omega
        have HB := Lib.hid hb
        clear hb ha
        go_wp2_with (go_at_call 23; (with_reducible refine (rmoment_bad x _ HB.out).mono ?_); rintro e w' ⟨rfl, rfl⟩)
        go_roundw
        case rel => exact ⟨j + 1, ts, by omega, by go_num, HI.out⟩
        case measure => simp [intOf]; omega
    · go_wp2_with (go_at_call 18; (with_reducible refine (ord_fire HI.out a1).mono ?_); rintro e w3 ⟨r, ks, rfl, hS⟩; have HS := Lib.hid hS; clear hS)
      have hd1 := dueN_le a1 ts
      rw [← HNN.out] at hd1
      obtain ⟨d, hd⟩ : ∃ d, d = dueN a1 ts := ⟨_, rfl⟩
      rw [← hd] at hd1
      have HD := Lib.hid hd
      clear hd
      go_loop [13, 15, 61] (fun q _ i => ∃ k : Nat, k ≤ n ∧ i = .int .i64 k ∧ q = .int .i64 (dueN a1 (ts.take k))) (fun _ _ i => n - (intOf i).toNat)
      case atStart => exact ⟨0, Nat.zero_le _, rfl, rfl⟩
      case round =>
        obtain ⟨k, hk, rfl, rfl⟩ := hrel
        by_cases hkn : k < n
        · have hkt : k < ts.length := by rw [← HNN.out]; exact hkn
          obtain ⟨g, rfl, hge, cg⟩ := HS.out.irow.at_ rfl (i := k) (by rw [length_ats]; exact hkt)
          clear hge
          replace cg := cg k (by rw [length_ats]; exact hkt)
          rw [ats_get hkt] at cg
          have hdt := dueN_take a1 ts k hkt
          have hdl : dueN a1 (ts.take k) ≤ k := Nat.le_trans (dueN_le _ _) (List.length_take_le _ _)
          generalize (nth_ ts k).at_ = y at cg hdt
          generalize dueN a1 (ts.take k) = q at hdt hdl ⊢
          generalize hq2 : dueN a1 (ts.take (k + 1)) = q2 at hdt
          have HQ2 := Lib.hid hq2
          clear hq2 hkt
          by_cases hya : y ≤ a1
          · rw [if_pos hya] at hdt
            have HDT := Lib.hid hdt
            have f1 : decide (y ≤ a1) = true := decide_eq_true hya
            clear hdt
            go_wp2
            go_round
            case rel => exact ⟨k + 1, by omega, by go_num, by rw [HQ2.out, HDT.out]; go_num⟩
            case measure => simp [intOf]; omega
          · rw [if_neg hya] at hdt
            have HDT := Lib.hid hdt
            have f1 : decide (y ≤ a1) = false := decide_eq_false hya
            clear hdt
            go_wp2
            go_round
            case rel => exact ⟨k + 1, by omega, by go_num, by rw [HQ2.out, HDT.out]; rfl⟩
            case measure => simp [intOf]; omega
        · have htk : ts.take k = ts := List.take_of_length_le (by rw [← HNN.out]; omega)
          rw [htk, ← HD.out]
          clear htk
          obtain ⟨ra, rc, hrr, hrc1, hrc2, _⟩ := HS.out.row
          rw [HS.out.len, ← HD.out] at hrr hrc1
          subst hrr
          have hol := ord_len HS.out
          rw [← HNN.out, ← HD.out] at hol
          have HOL := Lib.hid hol
          clear hol
          go_wp2_with (go_at_call 22; (refine HOL.out.mono ?_); rintro e w' ⟨rfl, rfl⟩)
          go_loopw [16, 17, 86] (fun _ _ i wr => ∃ k : Nat, k ≤ d ∧ i = .int .i64 k ∧ Shot w wr p (.slice ao n bc) (.slice ra d rc) ts a1 ks) (fun _ _ i _ => d - (intOf i).toNat)
          case atStart => exact ⟨0, Nat.zero_le _, rfl, HS.out⟩
          case round =>
            obtain ⟨k, hk, rfl, hS3⟩ := hrel
            have HS3 := Lib.hid hS3
            clear hS3
            by_cases hkd : k < d
            · have hks : k < ks.length := by rw [HS3.out.len, ← HD.out]; exact hkd
              obtain ⟨g, rfl, hge, cg⟩ := HS3.out.row.at_ rfl (i := k) hks
              clear hge
              have hw3 := HS3.out.irow
              rcases Nat.eq_zero_or_pos k with rfl | hk0
              · obtain ⟨b, e1, e2, e3⟩ := HS3.out.keys.1 0 hks
                have c1 := cg 0 hks
                rw [e1] at c1
                obtain ⟨gs, rfl, hge, cs⟩ := hw3.at_ rfl (i := b) (by rw [length_ats]; exact e2)
                clear hge
                have c2 := cs b (by rw [length_ats]; exact e2)
                rw [ats_get e2] at c2
                generalize (nth_ ts b).at_ = y at c2 e3
                have hbn : b < n := by rw [HNN.out]; exact e2
                have f1 : decide ((b : Int) < 0) = false := decide_eq_false (by omega)
                have f2 : decide ((n : Int) ≤ (b : Int)) = false := decide_eq_false (by omega)
                have f2n : decide (n ≤ b) = false := decide_eq_false (by omega)
                have f3 : decide (a1 < y) = false := decide_eq_false (by omega)
                clear cg cs e1 e2 hks hw3
                go_wp2
                go_quiet (fail)
                go_wp2
                go_roundw
                case rel => exact ⟨1, by omega, by go_num, HS3.out.only ((Only.refl _ _).drewN _)⟩
                case measure => simp [intOf]; omega
              · obtain ⟨i, rfl⟩ : ∃ i, k = i + 1 := ⟨k - 1, by omega⟩
                obtain ⟨a, b, ⟨d1, d2, d3⟩, ⟨e1, e2, e3⟩, hlt2⟩ := HS3.out.keys.2 i hks
                have c1 := cg (i + 1) hks
                rw [e1] at c1
                have c3 := cg i (by omega)
                rw [d1] at c3
                obtain ⟨gs, rfl, hge, cs⟩ := hw3.at_ rfl (i := b) (by rw [length_ats]; exact e2)
                clear hge
                have c2 := cs b (by rw [length_ats]; exact e2)
                rw [ats_get e2] at c2
                have c4 := cs a (by rw [length_ats]; exact d2)
                rw [ats_get d2] at c4
                generalize (nth_ ts b).at_ = y at c2 e3 hlt2
                generalize (nth_ ts a).at_ = x at c4 d3 hlt2
                have hbn : b < n := by rw [HNN.out]; exact e2
                have han : a < n := by rw [HNN.out]; exact d2
                have f1 : decide ((b : Int) < 0) = false := decide_eq_false (by omega)
                have f2 : decide ((n : Int) ≤ (b : Int)) = false := decide_eq_false (by omega)
                have f2n : decide (n ≤ b) = false := decide_eq_false (by omega)
                have f3 : decide (a1 < y) = false := decide_eq_false (by omega)
                have f4 : decide (y < x) = false := decide_eq_false (by omega)
                have f0 : decide (0 < ((i + 1 : Nat) : Int)) = true := decide_eq_true (by omega)
                have f0n : decide (0 < i + 1) = true := decide_eq_true (by omega)
                clear cg cs e1 e2 d1 d2 hks hw3 hk0
                by_cases hxy : x = y
                · subst hxy
                  have f5 : decide ((b : Int) ≤ (a : Int)) = false := decide_eq_false (by omega)
                  have f5n : decide (b ≤ a) = false := decide_eq_false (by omega)
                  clear hlt2
                  go_wp2
                  go_quiet (fail)
                  go_wp2
                  go_roundw
                  case rel => exact ⟨i + 2, by omega, by go_num, HS3.out.only ((Only.refl _ _).drewN _)⟩
                  case measure => simp [intOf]; omega
                · have f5 : (x == y) = false := beq_eq_false_iff_ne.2 hxy
                  have f6 : decide (x = y) = false := decide_eq_false hxy
                  clear hlt2 hxy
                  go_wp2
                  go_quiet (fail)
                  go_wp2
                  go_roundw
                  case rel => exact ⟨i + 2, by omega, by go_num, HS3.out.only ((Only.refl _ _).drewN _)⟩
                  case measure => simp [intOf]; omega
            · go_wp2_with (go_at_call 10; (with_reducible refine (speaks_ok _).mono ?_); rintro e w3 ⟨rfl, hB⟩)
              go_ret
              exact ⟨rfl, HS3.out.below.trans (hB.mono HS3.out.below.size)⟩
end Go.Proofs.Ytbbihkddogbicaa
