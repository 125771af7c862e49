/- The reference: Time at its total. -/
import Derived.Test.YtlcblfkmadjppaaGWalks7
namespace Go.Proofs.Ytlcblfkmadjppaa
open Go.RowKit
set_option linter.unusedVariables false
set_option linter.unusedSimpArgs false

section
variable {w : World} {lo p : Nat} {r : Rq} {vi vb vo : Value} {o : List Ac}
set_option maxRecDepth 100000 in
set_option maxHeartbeats 6400000 in
theorem gtime_total (h : GQ w lo p r vi vb [] vo) (hok : Okq r) (ho : r.over = false) (n : Nat) (hn : n ≤ 4611686018427387904) (allow : Bool) (ht : later r.since r.pl.total ≤ n) :
    Calls Try.prog 18 #[.pointer (some ⟨p, 0, none⟩), .int .i64 n, .bool allow] w fun e w' =>
      ∃ v, e = .returned (.tuple #[v, .int .i64 0]) ∧ GTold (gfoot p vi vb vo) w w' lo p (isOver r) v (cancels r.runs ++ [⟨4, -1, 504⟩]) := by
  obtain ⟨i66, hi66, hz0, hz1, hz2⟩ := info_parts Try.info66
  obtain ⟨kk, hkk⟩ : ∃ kk, kk = r.runs.length := ⟨_, rfl⟩
  obtain ⟨ai, ci, rfl, hci1, hci2, _, _⟩ := ownsRow_slice (show w.ownsRow lo 3 1 vi (idsOf r.runs).length (ints (idsOf r.runs)) from Gw.ids h)
  have hci3 : ci ≤ 9223372036854775807 := by unfold maxLen at hci2; omega
  rw [idsOf_len, ← hkk] at h hci1
  rw [idsOf_len, ← hkk]
  clear hci2
  have hn0 : (0 : Int) ≤ n := by omega
  have hn1 : (n : Int) ≤ 4611686018427387904 := by omega
  have hl9 := hok.len9
  have ht1 := hok.t1
  have hp5 := hok.p5.2
  obtain ⟨L, hL⟩ : ∃ L, L = later r.since r.pl.total := ⟨_, rfl⟩
  rw [← hL] at ht
  have hlat : ∀ w : World, Calls Try.prog 38 #[.int .i64 r.since, .int .i64 r.pl.total] w fun e w' => e = .returned (.int .i64 L) ∧ w = w' := fun w => by rw [hL]; exact glater_any _ _ w ht1 hp5
  have hR : Gw w lo p r (idsOf r.runs) (.slice ai kk ci) (sincesOf r.runs) vb [] vo := h
  rw [← hkk] at hl9
  have HOK := Lib.hid hok
  have HLAT := Lib.hid hlat
  have d13 := hR.blk.cell 13 _ rfl
  rw [ho] at d13
  have d6 := hR.blk.cell 6 _ rfl
  have d4 := hR.blk.cell 4 _ rfl
  have d11 := hR.blk.cell 11 _ rfl
  have hpl := hR.blk.lt
  have HR := Lib.hid hR
  have HKK := Lib.hid hkk
  have f1 : decide ((L : Int) ≤ (n : Int)) = true := decide_eq_true (by omega)
  have f1n : decide (L ≤ n) = true := decide_eq_true ht
  clear h hR hok ho hlat hL hkk ht1 hp5
  generalize r.since = sn at d6 HLAT
  generalize r.pl.total = tt at d4 HLAT
  go_enter Try.func18, Try.ntmps18
  go_upto_region 5 with (first
    | (go_at_call 25; (with_reducible refine (rmoment_ok n _ hn0 hn1).mono ?_); rintro e w' ⟨rfl, rfl⟩))
  go_quiet ((go_at_call 38; refine (HLAT.out _).mono ?_; rintro e w' ⟨rfl, rfl⟩; exact ⟨rfl, _, rfl⟩))
  have HM0 := Lib.hid (Mv.of_only (F := gfoot p (.slice ai kk ci) vb vo) ((Drawn.of w nq).only (fun _ => False)))
  have HR0 := Lib.hid (HR.out.only ((Drawn.of w nq).only (fun _ => False)) (fun _ _ h => h))
  have d11' : (w.drewN nq).cell? ⟨p, 11, none⟩ = some (.slice ai kk ci) := d11
  have hpl0 : p < (w.drewN nq).heap.size := hpl
  clear d11 d4 d6 d13 hpl
  generalize w.drewN nq = w1 at HM0 HR0 d11' hpl0 ⊢
  go_upto_region 7 with fail
  clear d11'
  go_loopw [9, 36] (fun _ i wr => ∃ (j : Nat) (vo' : Value), j ≤ kk ∧ i = .int .i64 j ∧ Gw wr lo p r (idsOf r.runs) (.slice ai kk ci) (sincesOf r.runs) vb (cancels (r.runs.take j)) vo' ∧ Mv (gfoot p (.slice ai kk ci) vb vo) (gfoot p (.slice ai kk ci) vb vo') w wr) (fun _ i _ => kk - (intOf i).toNat)
  case atStart => exact ⟨0, vo, Nat.zero_le _, rfl, HR0.out, HM0.out⟩
  case round =>
    obtain ⟨j, vo', hj, rfl, hRj, hMj⟩ := hrel
    have HRJ := Lib.hid hRj
    have HMJ := Lib.hid hMj
    clear hRj hMj
    have hol : (cancels (r.runs.take j)).length ≤ 20 := by rw [cancels_len, List.length_take]; omega
    by_cases hlt : j < kk
    · have hjr : j < r.runs.length := by rw [← HKK.out]; exact hlt
      obtain ⟨g, rfl, hgl, e0⟩ := ints_at HRJ.out.ids (ao := ai) (n := kk) (cap := ci) rfl (i := j) (by rw [idsOf_len]; exact hjr)
      rw [idsOf_get hjr] at e0
      obtain ⟨x, hx⟩ : ∃ x, x = runAt r.runs j := ⟨_, rfl⟩
      rw [← hx] at e0
      have hct : cancels (r.runs.take (j + 1)) = cancels (r.runs.take j) ++ [⟨2, x.id, 0⟩] := by
        unfold cancels
        rw [List.take_succ_eq_append_getElem hjr, List.map_append, hx, runAt_eq hjr]
        rfl
      have hxi : x.id < 1000000 := by
        have := HOK.out.lt x (by rw [hx, runAt_eq hjr]; exact List.getElem_mem hjr)
        have := HOK.out.made9
        omega
      have HCT := Lib.hid hct
      clear hx hjr hct
      go_upto_region 9 with fail
      have c15 := HRJ.out.blk.cell 15 _ rfl
      have f15 := HRJ.out.blk.free 15
      have hplA := HRJ.out.blk.lt
      have hloA : lo ≤ wr.heap.size := by have := HRJ.out.low; omega
      obtain ⟨ko, hko⟩ : ∃ k, k = (cancels (r.runs.take j)).length := ⟨_, rfl⟩
      have hOA := HRJ.out.out
      have hkl : ko ≤ 20 := by rw [hko]; exact hol
      rw [← hko] at hOA
      obtain ⟨ao, co, hvo, hco1, hco2, _, _⟩ := ownsRow_slice hOA
      have hG0 := HRJ.out
      rw [hvo] at hOA c15 hG0
      have HOA := Lib.hid hOA
      have HG0 := Lib.hid hG0
      have HVO := Lib.hid hvo
      have HKO := Lib.hid hko
      clear hOA hG0 hvo hko
      go_upto_region 10 with (at_builtin; refine wpList_append_row rfl (.tmp 44) (.tmp 47) 42 rfl lo 66 i66 _ 3 24 Try.underlying42 hi66 hz0 hz1 hz2 rfl (by decide) (.slice ao ko co) ko (acCells (cancels (r.runs.take j))) rfl (HOA.out.alloc _) (some ⟨wr.heap.size, 0, none⟩) 1 1 (acCells [⟨2, x.id, 0⟩]) rfl rfl (fun _ => ⟨_, rfl, cells_new _ [.int .i64 2, .int .i64 x.id, .int .i64 0] _⟩) (fun e => by cases e) (ac_one _) (by unfold maxLen; omega) (by omega) (by simp only [World.size_alloc]; omega) ?_)
      intro vA wA hownA honA hatA _
      obtain ⟨aA, kA, rfl, _, _, _, _⟩ := ownsRow_slice hownA
      have hbA := (HG0.out.blk.alloc (.cells #[.int .i64 2, .int .i64 x.id, .int .i64 0] 66)).only honA (fun e => HG0.out.no e)
      have e15 := hbA.cell 15 _ rfl
      have g15 := hbA.free 15
      have hA := HG0.out.appOut (acts := [⟨2, x.id, 0⟩]) ((Only.refl _ wr).alloc (.cells #[.int .i64 2, .int .i64 x.id, .int .i64 0] 66)) (by rw [← HKO.out]; exact hownA) honA (by first | exact hatA | (simp only [World.size_alloc] at hatA; exact hatA)) (Nat.le_succ _)
      have HA := Lib.hid hA
      clear hA hbA hownA honA hatA c15 f15
      go_upto_region 10 with fail
      generalize wA.setCell ⟨p, 15, none⟩ (.slice aA (ko + 1) kA) = w3 at HA ⊢
      clear e15 g15
      go_wp2_with fail
      go_roundw
      case rel => exact ⟨j + 1, _, by omega, by go_num, by rw [HCT.out]; exact HA.out.1, by have m := HMJ.out; rw [HVO.out] at m; exact m.trans (HA.out.2.p_gg _ _)⟩
      case measure => simp [intOf]; omega
    · have hke : cancels (r.runs.take j) = cancels r.runs := by rw [List.take_of_length_le (by rw [← HKK.out]; omega)]
      have HKE := Lib.hid hke
      clear hke
      go_upto_region 12 with (go_at_call 37; (with_reducible refine (gdone_any HRJ.out (Nat.le_trans hol (by decide)) 4 (-1) 504).mono ?_); rintro e w5 ⟨rfl, hP⟩; have HP := Lib.hid hP; clear hP)
      obtain ⟨vo5, h5, m5⟩ := HP.out
      have hg5 := gq_done (r' := r) h5
      have HG5 := Lib.hid hg5
      have M5 := Lib.hid m5
      clear h5 m5 hg5
      go_wp2_with (go_at_call 32; (with_reducible refine (gqtold_any HG5.out).mono ?_); rintro e w7 ⟨rfl, h7, ho7, hv7⟩; have H7 := Lib.hid h7; have HO7 := Lib.hid ho7; have HV7 := Lib.hid hv7; clear h7 ho7 hv7)
      go_ret2
      refine ⟨_, rfl, ?_⟩
      rw [← HKE.out]
      exact gtold_of (HMJ.out.trans (M5.out.p_done _ _)) HG5.out H7.out HO7.out HV7.out
end
end Go.Proofs.Ytlcblfkmadjppaa
