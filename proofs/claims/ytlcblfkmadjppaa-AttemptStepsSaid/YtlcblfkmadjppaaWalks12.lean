/- slices.Clone at runs; Time at its total. -/
import Derived.Test.YtlcblfkmadjppaaWalks11
import Derived.Test.YtlcblfkmadjppaaPlain2
namespace Go.Proofs.Ytlcblfkmadjppaa
open Go.RowKit
set_option linter.unusedVariables false
set_option linter.unusedSimpArgs false

set_option maxRecDepth 100000 in
theorem clone_any {w : World} {lo : Nat} {v : Value} {l : List Run} (h : w.ownsRow lo 64 2 v l.length (runCells l)) (hl : l.length ≤ 64) (h0 : 0 < l.length) :
    Calls Try.prog 45 #[v] w fun e w' => ∃ v', e = .returned v' ∧ w'.ownsRow w.heap.size 64 2 v' l.length (runCells l) ∧ Only (fun _ => False) w w' := by
  obtain ⟨i64, hi64, hz0, hz1, hz2⟩ := info_parts Try.info64
  obtain ⟨g, cap, C, rfl, h1, h2, hb, hlen, hr, hlo⟩ := own_runs h h0
  obtain ⟨k, hk⟩ : ∃ k, k = l.length := ⟨_, rfl⟩
  rw [← hk] at hl h0 h1
  rw [← hk]
  have HK := Lib.hid hk
  have HB := Lib.hid hb
  have hcm : cap ≤ 9223372036854775807 := by unfold maxLen at h2; omega
  clear h hb hlen hr hk h2
  have e58 : ∀ w : World, (binOp .eql 58 (.slice (some ⟨g, 0, none⟩) k cap) (.slice none 0 0)).run Try.prog w = .ok (.bool false) w := fun w => Lib.run_eql_slice_nil w 58 64 _ _ _ _ _ Try.underlying58
  go_enter Try.func45, Try.ntmps45
  go_wp2_with (at_builtin; refine wpList_append_row rfl (.tmp 5) (.tmp 6) 58 rfl w.heap.size 64 i64 _ 2 16 Try.underlying58 hi64 hz0 hz1 hz2 rfl (by decide) (.slice (some ⟨w.heap.size, 0, none⟩) 0 0) 0 [] rfl (⟨rfl, .inr ⟨w.heap.size, 0, #[], rfl, Nat.le_refl _, heap_alloc_new w _, Nat.le_refl _, by unfold maxLen; omega, rfl, rfl⟩⟩) (some ⟨g, 0, none⟩) k cap (runCells l) rfl (by rw [runCells_len, HK.out]) (fun _ => ⟨_, rfl, fun j u hj => by rw [Go.WideShapes.add_plain, Nat.zero_add, (HB.out.alloc _).cellAt, List.getElem?_append_left (List.getElem?_eq_some_iff.1 hj).1]; exact hj⟩) (fun e => by cases e) (run_one _) (by unfold maxLen; omega) (by omega) (by simp) ?_)
  intro v2 w2 hown hon hat _
  have HW := Lib.hid hown
  have HO := Lib.hid hon
  clear hown hon hat
  go_wp2_with fail
  go_ret
  refine ⟨_, rfl, ?_, ((Only.refl (fun _ => False) w).alloc _).trans HO.out (fun i hi e => by simp [Value.ownBlock] at e; omega)⟩
  exact HW.out

section
variable {F : Nat → Prop} {w : World} {lo p : Nat} {r : Rq} {o : List Ac}

def isOver (r : Rq) : Rq := { r with over := true, runs := [] }

set_option maxRecDepth 100000 in
set_option maxHeartbeats 6400000 in
theorem time_total (h : RQ F w lo p r []) (hok : Okq r) (ho : r.over = false) (n : Nat) (hn : n ≤ 4611686018427387904) (allow : Bool) (ht : later r.since r.pl.total ≤ n) :
    Calls Try.prog 22 #[.pointer (some ⟨p, 0, none⟩), .int .i64 n, .bool allow] w fun e w' =>
      ∃ v, e = .returned (.tuple #[v, .int .i64 0]) ∧ Told F w w' lo p (isOver r) v (cancels r.runs ++ [⟨4, -1, 504⟩]) := by
  have hl9 := hok.len9
  have ht1 := hok.t1
  have hp5 := hok.p5.2
  obtain ⟨L, hL⟩ : ∃ L, L = later r.since r.pl.total := ⟨_, rfl⟩
  rw [← hL] at ht
  have hlat : ∀ w : World, Calls Try.prog 40 #[.int .i64 r.since, .int .i64 r.pl.total] w fun e w' => e = .returned (.int .i64 L) ∧ w = w' := fun w => by rw [hL]; exact later_any _ _ w ht1 hp5
  have H := Lib.hid h
  have HOK := Lib.hid hok
  have HO := Lib.hid ho
  have HLAT := Lib.hid hlat
  obtain ⟨vr, vo, hR, rfl⟩ := h
  obtain ⟨ar, cr, rfl, hcr1, hcr2, _, _⟩ := ownsRow_slice hR.runs
  have hcr3 : cr ≤ 9223372036854775807 := by unfold maxLen at hcr2; omega
  obtain ⟨kk, hkk⟩ : ∃ kk, kk = r.runs.length := ⟨_, rfl⟩
  rw [← hkk] at hR hcr1 hl9
  have d6 := hR.blk.cell 6 _ rfl
  have d4 := hR.blk.cell 4 _ rfl
  have d11 := hR.blk.cell 11 _ rfl
  have hpl := hR.blk.lt
  have HR := Lib.hid hR
  have HKK := Lib.hid hkk
  have f1 : decide ((L : Int) ≤ (n : Int)) = true := decide_eq_true (by omega)
  have f1n : decide (L ≤ n) = true := decide_eq_true ht
  have z64 := zero64
  clear hR hok ho hlat hL hkk hcr2 ht1 hp5
  generalize r.since = sn at d6 HLAT
  generalize r.pl.total = tt at d4 HLAT
  rw [← HKK.out]
  go_enter Try.func22, Try.ntmps22
  go_upto_region 5 with (first
    | (go_at_call 27; (with_reducible refine (moment_ok n _ hn).mono ?_); rintro e w' ⟨rfl, rfl⟩)
    | (go_at_call 12; (with_reducible refine (over_any H.out).mono ?_); rintro e w' ⟨rfl, rfl⟩; rw [HO.out]))
  go_quiet ((go_at_call 40; refine (HLAT.out _).mono ?_; rintro e w' ⟨rfl, rfl⟩; exact ⟨rfl, _, rfl⟩))
  have hM0 := Lib.hid (Mv.of_only (F := foot p (.slice ar kk cr) vo) ((Drawn.of w nq).only (fun _ => False)))
  have HR0 := Lib.hid (HR.out.only ((Drawn.of w nq).only (fun _ => False)) (fun _ _ h => h))
  have d11' : (w.drewN nq).cell? ⟨p, 11, none⟩ = some (.slice ar kk cr) := d11
  have hpl0 : p < (w.drewN nq).heap.size := hpl
  clear d11 d4 d6 hpl
  generalize w.drewN nq = w1 at hM0 HR0 d11' hpl0 ⊢
  go_upto_region 7 with fail
  go_loopw [9, 34] (fun _ i wr => ∃ (j : Nat) (vo' : Value), j ≤ kk ∧ i = .int .i64 j ∧ Rw wr lo p r (.slice ar kk cr) (cancels (r.runs.take j)) vo' ∧ Mv (foot p (.slice ar kk cr) vo) (foot p (.slice ar kk cr) vo') w wr) (fun _ i _ => kk - (intOf i).toNat)
  case atStart => exact ⟨0, vo, Nat.zero_le _, rfl, HR0.out, hM0.out⟩
  case round =>
    obtain ⟨j, vo', hj, rfl, hRj, hMj⟩ := hrel
    have HRJ := Lib.hid hRj
    have HMJ := Lib.hid hMj
    clear hRj hMj
    by_cases hlt : j < kk
    · have hjr : j < r.runs.length := by rw [← HKK.out]; exact hlt
      obtain ⟨g, rfl, hgl, e0, e1⟩ := HRJ.out.runsAt rfl hjr
      obtain ⟨x, hx⟩ : ∃ x, x = runAt r.runs j := ⟨_, rfl⟩
      rw [← hx] at e0 e1
      have hct : cancels (r.runs.take (j + 1)) = cancels (r.runs.take j) ++ [⟨2, x.id, 0⟩] := by
        unfold cancels
        rw [List.take_succ_eq_append_getElem hjr, List.map_append, hx, runAt_eq hjr]
        rfl
      have hcl : (cancels (r.runs.take j)).length ≤ 20 := by rw [cancels_len, List.length_take]; omega
      have hxi : x.id < 1000000 := by
        have := HOK.out.lt x (by rw [hx, runAt_eq hjr]; exact List.getElem_mem hjr)
        have := HOK.out.made9
        omega
      have HCL := Lib.hid hcl
      have HCT := Lib.hid hct
      clear hx hjr hcl hct
      have ho4 : Only (fun _ => False) wr (wr.alloc (Obj.cells #[.int .i64 x.id, .int .i64 x.since] 64)) := (Only.refl _ _).alloc _
      have hb4 : Blk (wr.alloc (Obj.cells #[.int .i64 x.id, .int .i64 x.since] 64)) wr.heap.size [.int .i64 x.id, .int .i64 x.since] 64 := Blk.new wr [.int .i64 x.id, .int .i64 x.since] 64
      go_upto_region 9 with fail
      obtain ⟨q, hq⟩ : ∃ q, q = wr.heap.size := ⟨_, rfl⟩
      rw [← hq] at hb4 ⊢
      clear hq
      generalize wr.alloc (Obj.cells #[.int .i64 x.id, .int .i64 x.since] 64) = w4 at ho4 hb4 ⊢
      have b0 := hb4.cell 0 _ rfl
      have hql := hb4.lt
      have HR4 := Lib.hid (HRJ.out.only ho4 (fun _ _ h => h))
      have HO4 := Lib.hid ho4
      clear ho4 hb4 e0 e1 z64
      go_wp2_with (go_at_call 44; (with_reducible refine (say_one_rw HR4.out 2 x.id 0 (Nat.le_trans HCL.out (by decide))).mono ?_); rintro e w5 ⟨rfl, hP⟩; have HP := Lib.hid hP; clear hP)
      obtain ⟨vo5, hR5, hM5⟩ := HP.out
      have HR5 := Lib.hid hR5
      have HM5 := Lib.hid hM5
      clear hR5 hM5
      go_roundw
      case rel => exact ⟨j + 1, vo5, by omega, by go_num, by rw [HCT.out]; exact HR5.out, (HMJ.out.trans (Mv.of_only HO4.out)).trans HM5.out⟩
      case measure => simp [intOf]; omega
    · have hke : cancels (r.runs.take j) = cancels r.runs := by rw [List.take_of_length_le (by rw [← HKK.out]; omega)]
      have hcl : (cancels (r.runs.take j)).length ≤ 60 := by rw [cancels_len, List.length_take]; omega
      have HKE := Lib.hid hke
      have HCL := Lib.hid hcl
      clear hke hcl z64 d11'
      go_upto_region 12 with (go_at_call 44; (with_reducible refine (say_one_rw HRJ.out 4 (-1) 504 HCL.out).mono ?_); rintro e w5 ⟨rfl, hP⟩; have HP := Lib.hid hP; clear hP)
      obtain ⟨vo5, hR5, hM5⟩ := HP.out
      have b12 := hR5.blk.cell 12 _ rfl
      have b11 := hR5.blk.cell 11 _ rfl
      have f12 := hR5.blk.free 12
      have f11 := hR5.blk.free 11
      have hpl5 := hR5.blk.lt
      have HR6 := Lib.hid hR5.over_
      have HM5 := Lib.hid hM5
      clear hR5 hM5
      go_upto_region 13 with fail
      generalize (w5.setCell ⟨p, 12, none⟩ (.bool true)).setCell ⟨p, 11, none⟩ (.slice none 0 0) = w6 at HR6 ⊢
      go_wp2_with (go_at_call 29; (with_reducible refine (told_any (rq_of HR6.out.1)).mono ?_); rintro e w7 ⟨v, rfl, hT⟩; have HT := Lib.hid hT; clear hT)
      go_ret2
      refine ⟨v, rfl, ?_⟩
      rw [← HKE.out]
      exact HT.out.trans ((HMJ.out.trans HM5.out).trans HR6.out.2)
end
end Go.Proofs.Ytlcblfkmadjppaa
