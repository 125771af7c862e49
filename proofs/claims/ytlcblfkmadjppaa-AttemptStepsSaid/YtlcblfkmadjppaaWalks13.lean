/- Time: those that are late; hedges; Time whole. -/
import Derived.Test.YtlcblfkmadjppaaWalks12
namespace Go.Proofs.Ytlcblfkmadjppaa
open Go.RowKit
set_option linter.unusedVariables false
set_option linter.unusedSimpArgs false

section
variable {F : Nat → Prop} {w : World} {lo p : Nat} {r : Rq} {o : List Ac}

/-- Ahead of a round: the copy of those that ran lies apart. -/
structure LateI (F : Nat → Prop) (w wr : World) (lo p : Nat) (r : Rq) (now : Nat) (allow : Bool) (gc : Nat) (j : Nat) : Prop where
  rq : ∃ F', RQ F' wr lo p (lates now allow (r.runs.take j) (r, [])).1 (lates now allow (r.runs.take j) (r, [])).2 ∧ Mv F F' w wr ∧ ¬ F' gc
  row : RunsAt wr gc r.runs
  base : gc < wr.heap.size ∧ ¬ F gc
theorem LateI.only {wr w2 : World} {now : Nat} {allow : Bool} {gc j : Nat} (h : LateI F w wr lo p r now allow gc j) (ho : Only (fun _ => False) wr w2) : LateI F w w2 lo p r now allow gc j := by
  obtain ⟨⟨F', h1, h2, h3⟩, h4, h5⟩ := h
  exact ⟨⟨F', h1.only ho (fun _ _ h => h), h2.trans (Mv.of_only ho), h3⟩, h4.only ho (fun h => h), Nat.lt_of_lt_of_le h5.1 ho.size, h5.2⟩
theorem LateI.rq_ {wr : World} {now : Nat} {allow : Bool} {gc j : Nat} (h : LateI F w wr lo p r now allow gc j) : ∃ F', RQ F' wr lo p (lates now allow (r.runs.take j) (r, [])).1 (lates now allow (r.runs.take j) (r, [])).2 := by
  obtain ⟨⟨F', h1, _⟩, _⟩ := h; exact ⟨F', h1⟩
/-- The request moves on, the copy stays. -/
theorem LateI.step {wr w2 : World} {now : Nat} {allow : Bool} {gc j : Nat} (h : LateI F w wr lo p r now allow gc j) {F' F2 : Nat → Prop} {s : Rq × List Ac} (m1 : Mv F F' w wr) (hg : ¬ F' gc) (h2 : RQ F2 w2 lo p s.1 s.2) (m2 : Mv F' F2 wr w2)
    (he : lates now allow (r.runs.take (j + 1)) (r, []) = s) : LateI F w w2 lo p r now allow gc (j + 1) := by
  refine ⟨⟨F2, by rw [he]; exact h2, m1.trans m2, fun hf => (m2.new_ gc hf).elim hg (fun hl => by have := h.base.1; omega)⟩, h.row.only m2.only hg, Nat.lt_of_lt_of_le h.base.1 m2.only.size, h.base.2⟩

set_option maxRecDepth 100000 in
set_option maxHeartbeats 6400000 in
theorem time_late (h : RQ F w lo p r []) (hok : Okq r) (ho : r.over = false) (n : Nat) (hn : n ≤ 4611686018427387904) (allow : Bool) (ht : ¬ later r.since r.pl.total ≤ n) :
    Calls Try.prog 22 #[.pointer (some ⟨p, 0, none⟩), .int .i64 n, .bool allow] w fun e w' =>
      ∃ v, e = .returned (.tuple #[v, .int .i64 0]) ∧ Told F w w' lo p (hedgeR (lates n allow r.runs (r, [])).1 n allow).1 v ((lates n allow r.runs (r, [])).2 ++ (hedgeR (lates n allow r.runs (r, [])).1 n allow).2) := by
  have hl9 := hok.len9
  have hk0 := List.length_pos_iff.2 (hok.live ho)
  have ht1 := hok.t1
  have hp5 := hok.p5.2
  have hp4 := hok.p4.2
  obtain ⟨L, hL⟩ : ∃ L, L = later r.since r.pl.total := ⟨_, rfl⟩
  rw [← hL] at ht
  have hlat : ∀ w : World, Calls Try.prog 40 #[.int .i64 r.since, .int .i64 r.pl.total] w fun e w' => e = .returned (.int .i64 L) ∧ w = w' := fun w => by rw [hL]; exact later_any _ _ w ht1 hp5
  have H := Lib.hid h
  have HOK := Lib.hid hok
  have HO := Lib.hid ho
  have HLAT := Lib.hid hlat
  obtain ⟨vr, vo, hR, rfl⟩ := h
  obtain ⟨ar, cr, rfl, hcr1, hcr2, _, _⟩ := ownsRow_slice hR.runs
  have hcr3 : cr ≤ 9223372036854775807 := by unfold maxLen at hcr2; omega
  obtain ⟨kk, hkk⟩ : ∃ kk, kk = r.runs.length := ⟨_, rfl⟩
  have HRR := Lib.hid hR.runs
  rw [← hkk] at hR hcr1 hl9 hk0 HRR
  have d6 := hR.blk.cell 6 _ rfl
  have d4 := hR.blk.cell 4 _ rfl
  have d11 := hR.blk.cell 11 _ rfl
  have hpl := hR.blk.lt
  have HR := Lib.hid hR
  have HKK := Lib.hid hkk
  have f1 : decide ((L : Int) ≤ (n : Int)) = false := decide_eq_false (by omega)
  have f1n : decide (L ≤ n) = false := decide_eq_false ht
  have z64 := zero64
  clear hR hok ho hlat hL hkk hcr2 ht1 hp5
  generalize r.since = sn at d6 HLAT
  generalize r.pl.total = tt at d4 HLAT
  obtain ⟨rr, hrr⟩ : ∃ rr, rr = ((hedgeR (lates n allow r.runs (r, [])).1 n allow).1, (lates n allow r.runs (r, [])).2 ++ (hedgeR (lates n allow r.runs (r, [])).1 n allow).2) := ⟨_, rfl⟩
  have e1 : (hedgeR (lates n allow r.runs (r, [])).1 n allow).1 = rr.1 := by rw [hrr]
  have e2 : (lates n allow r.runs (r, [])).2 ++ (hedgeR (lates n allow r.runs (r, [])).1 n allow).2 = rr.2 := by rw [hrr]
  rw [e1, e2, ← HKK.out]
  have HRES := Lib.hid hrr
  clear hrr e1 e2
  go_enter Try.func22, Try.ntmps22
  go_upto_region 5 with (first
    | (go_at_call 27; (with_reducible refine (moment_ok n _ hn).mono ?_); rintro e w' ⟨rfl, rfl⟩)
    | (go_at_call 12; (with_reducible refine (over_any H.out).mono ?_); rintro e w' ⟨rfl, rfl⟩; rw [HO.out]))
  go_quiet ((go_at_call 40; refine (HLAT.out _).mono ?_; rintro e w' ⟨rfl, rfl⟩; exact ⟨rfl, _, rfl⟩))
  have hO0 : Only (fun _ => False) w (w.drewN nq) := (Drawn.of w nq).only (fun _ => False)
  have HR0 := Lib.hid (HR.out.only hO0 (fun _ _ h => h))
  have d11' : (w.drewN nq).cell? ⟨p, 11, none⟩ = some (.slice ar kk cr) := d11
  have hpl0 : p < (w.drewN nq).heap.size := hpl
  have HO0 := Lib.hid hO0
  clear d11 d4 d6 hpl hO0
  generalize w.drewN nq = w1 at HO0 HR0 d11' hpl0 ⊢
  have hcl := clone_any HR0.out.runs (by rw [← HKK.out]; omega) (by rw [← HKK.out]; exact hk0)
  rw [← HKK.out] at hcl
  have HCL := Lib.hid hcl
  clear hcl
  go_upto_region 15 with (go_at_call 45; (refine HCL.out.mono ?_); rintro e w2 ⟨vc, rfl, hcv, hco⟩; obtain ⟨gc, cc, C, rfl, hcc1, hcc2, -, -, hcr, hclo⟩ := own_runs (by rw [HKK.out] at hcv; exact hcv) (by rw [← HKK.out]; exact hk0); have hcc3 : cc ≤ 9223372036854775807 := (by unfold maxLen at hcc2; omega); rw [← HKK.out] at hcc1 ⊢; have HCR := Lib.hid hcr; have HCO := Lib.hid hco; clear hcv hco hcr hcc2)
  have hI0 : LateI (foot p (.slice ar kk cr) vo) w w2 lo p r n allow gc 0 := by
    have hgl := HCR.out.lt (by rw [← HKK.out]; exact hk0)
    have hz := HO0.out.size
    have hng : ¬ foot p (.slice ar kk cr) vo gc := fun hf => by have := HR.out.lt gc hf; omega
    exact ⟨⟨_, rq_of (HR0.out.only HCO.out (fun _ _ h => h)), Mv.of_only (HO0.out.trans HCO.out (fun _ _ h => h)), hng⟩, HCR.out, hgl, hng⟩
  have HI0 := Lib.hid hI0
  clear hI0 d11'
  go_loopw [11, 63] (fun _ i wr => ∃ j : Nat, j ≤ kk ∧ i = .int .i64 j ∧ LateI (foot p (.slice ar kk cr) vo) w wr lo p r n allow gc j) (fun _ i _ => kk - (intOf i).toNat)
  case atStart => exact ⟨0, Nat.zero_le _, rfl, HI0.out⟩
  case round =>
    obtain ⟨j, hj, rfl, hI⟩ := hrel
    by_cases hlt : j < kk
    · have hjr : j < r.runs.length := by rw [← HKK.out]; exact hlt
      obtain ⟨q1, q2, q3, q4⟩ := HOK.out.of_lates n allow hjr
      have hls := lates_take n allow r.runs (r, []) j hjr
      obtain ⟨e0, e1⟩ := hI.row.at_ j hjr
      have hgl := hI.base.1
      obtain ⟨x, hx⟩ : ∃ x, x = runAt r.runs j := ⟨_, rfl⟩
      rw [← hx] at e0 e1
      rw [← runAt_eq hjr, ← hx] at hls
      have hxs : x.since ≤ 4611686018427387904 := HOK.out.t3 x (by rw [hx, runAt_eq hjr]; exact List.getElem_mem hjr)
      have hxi : x.id < 1000000 := by
        have := HOK.out.lt x (by rw [hx, runAt_eq hjr]; exact List.getElem_mem hjr)
        have := HOK.out.made9
        omega
      obtain ⟨s, hs⟩ : ∃ s, s = lates n allow (r.runs.take j) (r, []) := ⟨_, rfl⟩
      rw [← hs] at q1 q2 q3 q4 hls
      have hrq := hI.rq
      rw [← hs] at hrq
      obtain ⟨F', h1, m1, hg⟩ := hrq
      have HI := Lib.hid hI
      have Q1 := Lib.hid q1
      have Q2 := Lib.hid (q2.trans HO.out)
      have HLS := Lib.hid hls
      have H1 := Lib.hid h1
      have M1 := Lib.hid m1
      have HG := Lib.hid hg
      have hper : s.1.pl.per = r.pl.per := by rw [q4]
      have HPER := Lib.hid hper
      clear hI q1 q2 q4 hls h1 m1 hg hx hs hjr hper
      have ho4 : Only (fun _ => False) wr (wr.alloc (Obj.cells #[.int .i64 x.id, .int .i64 x.since] 64)) := (Only.refl _ _).alloc _
      have hb4 : Blk (wr.alloc (Obj.cells #[.int .i64 x.id, .int .i64 x.since] 64)) wr.heap.size [.int .i64 x.id, .int .i64 x.since] 64 := Blk.new wr [.int .i64 x.id, .int .i64 x.since] 64
      go_upto_region 17 with fail
      obtain ⟨q, hq⟩ : ∃ q, q = wr.heap.size := ⟨_, rfl⟩
      rw [← hq] at hb4 ⊢
      have hqF : ¬ F' q := fun hf => by have := (H1.out.lt q hf).2; omega
      have HQF := Lib.hid hqF
      clear hq hqF
      generalize wr.alloc (Obj.cells #[.int .i64 x.id, .int .i64 x.since] 64) = w4 at ho4 hb4 ⊢
      have HB4 := Lib.hid hb4
      have b0 := hb4.cell 0 _ rfl
      have b1 := hb4.cell 1 _ rfl
      have hql := hb4.lt
      have H4 := Lib.hid (H1.out.only ho4 (fun _ _ h => h))
      have HO4 := Lib.hid ho4
      have b3 : w4.cell? ⟨p, 3, none⟩ = some (.int .i64 r.pl.per) := by rw [← HPER.out]; exact (rq_cell H4.out 3 (.int .i64 s.1.pl.per) (fun _ _ => rfl)).1
      have hpl4 := (H4.out.lt p H4.out.at_p).2
      clear ho4 hb4 e0 e1 z64
      obtain ⟨L2, hL2⟩ : ∃ L2, L2 = later x.since r.pl.per := ⟨_, rfl⟩
      have hlat2 : ∀ w : World, Calls Try.prog 40 #[.int .i64 x.since, .int .i64 r.pl.per] w fun e w' => e = .returned (.int .i64 L2) ∧ w = w' := fun w => by rw [hL2]; exact later_any _ _ w hxs hp4
      have HL2 := Lib.hid (show L2 = later x.since s.1.pl.per by rw [HPER.out]; exact hL2)
      have HLAT2 := Lib.hid hlat2
      clear hlat2 hL2
      generalize r.pl.per = per at b3 HLAT2 hp4 HPER
      by_cases hd : L2 ≤ n
      · have g1 : decide ((L2 : Int) ≤ (n : Int)) = true := decide_eq_true (by omega)
        have g1n : decide (L2 ≤ n) = true := decide_eq_true hd
        go_quiet ((go_at_call 40; refine (HLAT2.out _).mono ?_; rintro e w' ⟨rfl, rfl⟩; exact ⟨rfl, _, rfl⟩))
        have b0' : (w4.drewN nq).cell? ⟨q, 0, none⟩ = some (.int .i64 x.id) := b0
        have hql' : q < (w4.drewN nq).heap.size := hql
        have hO5 : Only (fun _ => False) w4 (w4.drewN nq) := (Drawn.of w4 nq).only (fun _ => False)
        have H5 := Lib.hid (H4.out.only hO5 (fun _ _ h => h))
        have HO5 := Lib.hid (HO4.out.trans hO5 (fun _ _ h => h))
        have hBQ : Blk (w4.drewN nq) q [.int .i64 x.id, .int .i64 x.since] 64 := HB4.out.drewN nq
        have HBQ := Lib.hid hBQ
        clear b0 b1 b3 hql hO5 hBQ
        generalize w4.drewN nq = w5 at b0' hql' H5 HO5 HBQ ⊢
        have hsl : s.2.length ≤ 60 := by omega
        go_upto_region 19 with (go_at_call 44; (with_reducible refine (say_one H5.out 2 x.id 0 hsl).mono ?_); rintro e w6 ⟨rfl, hP⟩; obtain ⟨F6, h6, m6⟩ := hP; have H6 := Lib.hid h6; have M6 := Lib.hid m6; clear h6 m6)
        have hb6 := HBQ.out.only M6.out.only HQF.out
        have b0'' := hb6.cell 0 _ rfl
        have hql6 := hb6.lt
        have hfl := fails_any H6.out Q1.out (by rw [List.length_append, List.length_singleton]; omega) n hn x.id 3 (by decide) allow
        have HFL := Lib.hid hfl
        clear hb6 hfl b0' hql'
        go_wp2_with (go_at_call 46; (refine HFL.out.mono ?_); rintro e w7 ⟨rfl, hP⟩; obtain ⟨F7, h7, m7⟩ := hP; have H7 := Lib.hid h7; have M7 := Lib.hid m7; clear h7 m7)
        go_roundw
        case rel =>
          refine ⟨j + 1, by omega, by go_num, HI.out.step (s := ((failsR s.1 n x.id 3 allow).1, s.2 ++ [⟨2, x.id, 0⟩] ++ (failsR s.1 n x.id 3 allow).2)) M1.out HG.out H7.out ((Mv.of_only HO5.out).trans (M6.out.trans M7.out)) ?_⟩
          rw [HLS.out]
          unfold late1
          rw [if_pos (by rw [← HL2.out]; exact hd)]
        case measure => simp [intOf]; omega
      · have g1 : decide ((L2 : Int) ≤ (n : Int)) = false := decide_eq_false (by omega)
        have g1n : decide (L2 ≤ n) = false := decide_eq_false hd
        go_quiet ((go_at_call 40; refine (HLAT2.out _).mono ?_; rintro e w' ⟨rfl, rfl⟩; exact ⟨rfl, _, rfl⟩))
        go_wp2_with fail
        go_roundw
        case rel =>
          have hO5 : Only (fun _ => False) wr (w4.drewN nq) := HO4.out.trans ((Drawn.of w4 nq).only (fun _ => False)) (fun _ _ h => h)
          refine ⟨j + 1, by omega, by go_num, HI.out.step (s := s) M1.out HG.out (H1.out.only hO5 (fun _ _ h => h)) (Mv.of_only hO5) ?_⟩
          rw [HLS.out]
          unfold late1
          rw [if_neg (by rw [← HL2.out]; exact hd)]
        case measure => simp [intOf]; omega
    · obtain ⟨F', h1, m1, -⟩ := hI.rq
      rw [List.take_of_length_le (by rw [← HKK.out]; omega)] at h1
      obtain ⟨q1, q2, q3⟩ := HOK.out.of_lates_all HO.out n hn allow
      obtain ⟨s, hs⟩ : ∃ s, s = lates n allow r.runs (r, []) := ⟨_, rfl⟩
      rw [← hs] at h1 q1 q2 q3
      have HS := Lib.hid hs
      have H1 := Lib.hid h1
      have M1 := Lib.hid m1
      have Q1 := Lib.hid q1
      have hres : rr = ((hedgeR s.1 n allow).1, s.2 ++ (hedgeR s.1 n allow).2) := by rw [HRES.out, ← hs]
      have HRS := Lib.hid hres
      clear hI h1 m1 q1 q3 hs hres z64
      obtain ⟨c12, -⟩ := rq_cell H1.out 12 (.bool s.1.over) (fun _ _ => rfl)
      obtain ⟨c7, -⟩ := rq_cell H1.out 7 (.int .i64 s.1.last) (fun _ _ => rfl)
      obtain ⟨c2, -⟩ := rq_cell H1.out 2 (.int .i64 s.1.pl.after) (fun _ _ => rfl)
      have hplr := (H1.out.lt p H1.out.at_p).2
      have hHG := fun (w' : World) (hd : Drawn wr w') => hedging_any (H1.out.only (hd.only (fun _ => False)) (fun _ _ h => h)) Q1.out.w
      obtain ⟨b, hb⟩ : ∃ b, b = hedging s.1 := ⟨_, rfl⟩
      simp only [← hb] at hHG
      obtain ⟨L3, hL3⟩ : ∃ L3, L3 = later s.1.last s.1.pl.after := ⟨_, rfl⟩
      have ht2 := Q1.out.t2
      have hp3 := Q1.out.p3.2
      have hlat3 : ∀ w : World, Calls Try.prog 40 #[.int .i64 s.1.last, .int .i64 s.1.pl.after] w fun e w' => e = .returned (.int .i64 L3) ∧ w = w' := fun w => by rw [hL3]; exact later_any _ _ w ht2 hp3
      have HHG := Lib.hid hHG
      have HLAT3 := Lib.hid hlat3
      have HB := Lib.hid hb
      have HL3 := Lib.hid hL3
      clear hHG hlat3 hb hL3 ht2 hp3
      generalize haf : s.1.pl.after = af at c2 HLAT3 HL3
      generalize hla : s.1.last = la at c7 HLAT3 HL3
      have HAF := Lib.hid haf
      have HLA := Lib.hid hla
      clear haf hla
      go_upto_region 21 with fail
      cases hv : s.1.over with
      | true =>
        rw [hv] at c12
        have HV := Lib.hid hv
        clear hv
        go_quiet ((first
          | (go_at_call 41; refine (HHG.out _ (Drawn.of wr _)).mono ?_; rintro e w' ⟨rfl, hd⟩; exact ⟨rfl, (Drawn.of wr _).trans hd⟩)
          | (go_at_call 40; refine (HLAT3.out _).mono ?_; rintro e w' ⟨rfl, rfl⟩; exact ⟨rfl, _, rfl⟩)))
        have H2 := Lib.hid (H1.out.only ((Drawn.of wr nq).only (fun _ => False)) (fun _ _ h => h))
        have M2 := Lib.hid (Mv.of_only (F := F') ((Drawn.of wr nq).only (fun _ => False)))
        clear c12 c7 c2 hplr
        generalize wr.drewN nq = w8 at H2 M2 ⊢
        go_wp2_with (go_at_call 29; (with_reducible refine (told_any H2.out).mono ?_); rintro e w9 ⟨v, rfl, hT⟩; have HT := Lib.hid hT; clear hT)
        go_ret2
        have hh : hedgeR s.1 n allow = (s.1, []) := by
          unfold hedgeR
          rw [if_neg (by rw [HV.out]; simp)]
        refine ⟨v, rfl, ?_⟩
        rw [HRS.out, hh]
        show Told _ _ _ _ _ s.1 v (s.2 ++ [])
        rw [List.append_nil]
        exact HT.out.trans (M1.out.trans M2.out)
      | false =>
        rw [hv] at c12
        have HV := Lib.hid hv
        clear hv
        cases b with
        | false =>
          go_quiet ((first
            | (go_at_call 41; refine (HHG.out _ (Drawn.of wr _)).mono ?_; rintro e w' ⟨rfl, hd⟩; exact ⟨rfl, (Drawn.of wr _).trans hd⟩)
            | (go_at_call 40; refine (HLAT3.out _).mono ?_; rintro e w' ⟨rfl, rfl⟩; exact ⟨rfl, _, rfl⟩)))
          have H2 := Lib.hid (H1.out.only ((Drawn.of wr nq).only (fun _ => False)) (fun _ _ h => h))
          have M2 := Lib.hid (Mv.of_only (F := F') ((Drawn.of wr nq).only (fun _ => False)))
          clear c12 c7 c2 hplr
          generalize wr.drewN nq = w8 at H2 M2 ⊢
          go_wp2_with (go_at_call 29; (with_reducible refine (told_any H2.out).mono ?_); rintro e w9 ⟨v, rfl, hT⟩; have HT := Lib.hid hT; clear hT)
          go_ret2
          have hh : hedgeR s.1 n allow = (s.1, []) := by
            unfold hedgeR
            rw [if_neg (by rw [← HB.out]; simp)]
          refine ⟨v, rfl, ?_⟩
          rw [HRS.out, hh]
          show Told _ _ _ _ _ s.1 v (s.2 ++ [])
          rw [List.append_nil]
          exact HT.out.trans (M1.out.trans M2.out)
        | true =>
          by_cases hd : L3 ≤ n
          · have g1 : decide ((L3 : Int) ≤ (n : Int)) = true := decide_eq_true (by omega)
            have g1n : decide (L3 ≤ n) = true := decide_eq_true hd
            go_quiet ((first
          | (go_at_call 41; refine (HHG.out _ (Drawn.of wr _)).mono ?_; rintro e w' ⟨rfl, hd⟩; exact ⟨rfl, (Drawn.of wr _).trans hd⟩)
          | (go_at_call 40; refine (HLAT3.out _).mono ?_; rintro e w' ⟨rfl, rfl⟩; exact ⟨rfl, _, rfl⟩)))
            have hO2 : Only (fun _ => False) wr (wr.drewN nq) := (Drawn.of wr nq).only (fun _ => False)
            have H2 := Lib.hid (H1.out.only hO2 (fun _ _ h => h))
            have M2 := Lib.hid (Mv.of_only (F := F') hO2)
            have HD := Lib.hid hd
            clear c12 c7 c2 hplr hO2
            generalize wr.drewN nq = w8 at H2 M2 ⊢
            have hbb := HB.out.symm
            simp only [hedging, Bool.and_eq_true, Bool.not_eq_true', decide_eq_true_eq] at hbb
            obtain ⟨⟨htm, hhe⟩, hru⟩ := hbb
            have hhd := Q1.out.p2
            have hm9 := Q1.out.made9
            have hr9 := Q1.out.len9
            obtain ⟨c13, f13⟩ := rq_cell H2.out 13 (.bool s.1.tame) (fun _ _ => rfl)
            have hpl2 := (H2.out.lt p H2.out.at_p).2
            have h3 := rq_set H2.out (r' := { s.1 with tame := !allow }) 13 (.bool (!allow)) (fun _ _ => rfl) rfl
            have H3 := Lib.hid h3
            have HTM := Lib.hid htm
            have HHE := Lib.hid hhe
            have HM9 := Lib.hid hm9
            have HR9 := Lib.hid hr9
            have hgd : decide (later s.1.last s.1.pl.after ≤ n) = true := by rw [HAF.out, HLA.out, ← HL3.out]; exact decide_eq_true HD.out
            have HGD := Lib.hid hgd
            have hh9 : s.1.hedged ≤ 3 := by omega
            clear h3 htm hhe hru hm9 hr9 hgd hd hhd
            cases allow with
            | true =>
              go_upto_region 23 with fail
              simp only [Bool.not_true] at H3
              generalize w8.setCell ⟨p, 13, none⟩ (.bool false) = w9 at H3 ⊢
              obtain ⟨F3, h3, m3⟩ := H3.out
              obtain ⟨c10, f10⟩ := rq_cell h3 10 (.int .i64 s.1.hedged) (fun _ _ => rfl)
              have h4 := rq_set h3 (r' := { s.1 with tame := false, hedged := s.1.hedged + 1 }) 10 (.int .i64 ((s.1.hedged : Int) + 1)) (fun _ _ => rfl) rfl
              have hpl3 := (h3.lt p h3.at_p).2
              have M3 := Lib.hid m3
              obtain ⟨hg, hhg⟩ : ∃ hg, hg = s.1.hedged := ⟨_, rfl⟩
              rw [← hhg] at c10 h4 hh9
              have H4 := Lib.hid h4
              have HHG2 := Lib.hid hhg
              clear h3 m3 h4 hhg c13 f13
              go_upto_region 25 with fail
              generalize w9.setCell ⟨p, 10, none⟩ (.int .i64 ((hg : Int) + 1)) = w10 at H4 ⊢
              obtain ⟨F4, h4, m4⟩ := H4.out
              have htr := try_any h4 (by show s.1.made ≤ 20; have := HM9.out; omega) (by show s.1.runs.length ≤ 20; have := HR9.out; omega) (by omega) n hn 2
              have HT := Lib.hid htr
              have M4 := Lib.hid m4
              clear h4 m4 htr c10 f10
              go_wp2_with (first
                | (go_at_call 28; (refine HT.out.mono ?_); rintro e w11 ⟨rfl, hP⟩; obtain ⟨F5, h5, m5⟩ := hP; have H5 := Lib.hid h5; have M5 := Lib.hid m5; clear h5 m5)
                | (go_at_call 29; (with_reducible refine (told_any H5.out).mono ?_); rintro e w12 ⟨v, rfl, hT⟩; have HTO := Lib.hid hT; clear hT))
              go_ret2
              have hh : hedgeR s.1 n true = (tryR { s.1 with hedged := hg + 1 } n, [⟨1, s.1.made, 2⟩]) := by
                unfold hedgeR
                rw [if_pos (by rw [HV.out, ← HB.out, HGD.out]; rfl), if_pos rfl, HHG2.out]
              refine ⟨v, rfl, ?_⟩
              rw [HRS.out, hh]
              have hfin := HTO.out.trans (M1.out.trans (M2.out.trans (M3.out.trans (M4.out.trans M5.out))))
              have het : ({ s.1 with tame := false, hedged := hg + 1 } : Rq) = { s.1 with hedged := hg + 1 } := by
                have := HTM.out
                cases hs1 : s.1
                rw [hs1] at this
                simp only at this
                rw [this]
              rw [het] at hfin
              exact hfin
            | false =>
              go_upto_region 23 with fail
              simp only [Bool.not_false] at H3
              generalize w8.setCell ⟨p, 13, none⟩ (.bool true) = w9 at H3 ⊢
              obtain ⟨F3, h3, m3⟩ := H3.out
              have H4 := Lib.hid h3
              have M3 := Lib.hid m3
              clear h3 m3 c13 f13
              go_wp2_with (first
                | (go_at_call 29; (with_reducible refine (told_any H4.out).mono ?_); rintro e w12 ⟨v, rfl, hT⟩; have HTO := Lib.hid hT; clear hT))
              go_ret2
              have hh : hedgeR s.1 n false = ({ s.1 with tame := true }, []) := by
                unfold hedgeR
                rw [if_pos (by rw [HV.out, ← HB.out, HGD.out]; rfl), if_neg (by decide)]
              refine ⟨v, rfl, ?_⟩
              rw [HRS.out, hh]
              show Told _ _ _ _ _ _ v (s.2 ++ [])
              rw [List.append_nil]
              exact HTO.out.trans (M1.out.trans (M2.out.trans M3.out))
          · have g1 : decide ((L3 : Int) ≤ (n : Int)) = false := decide_eq_false (by omega)
            have g1n : decide (L3 ≤ n) = false := decide_eq_false hd
            have HG1 := Lib.hid g1n
            go_quiet ((first
              | (go_at_call 41; refine (HHG.out _ (Drawn.of wr _)).mono ?_; rintro e w' ⟨rfl, hd⟩; exact ⟨rfl, (Drawn.of wr _).trans hd⟩)
              | (go_at_call 40; refine (HLAT3.out _).mono ?_; rintro e w' ⟨rfl, rfl⟩; exact ⟨rfl, _, rfl⟩)))
            have H2 := Lib.hid (H1.out.only ((Drawn.of wr nq).only (fun _ => False)) (fun _ _ h => h))
            have M2 := Lib.hid (Mv.of_only (F := F') ((Drawn.of wr nq).only (fun _ => False)))
            clear c12 c7 c2 hplr
            generalize wr.drewN nq = w8 at H2 M2 ⊢
            go_wp2_with (go_at_call 29; (with_reducible refine (told_any H2.out).mono ?_); rintro e w9 ⟨v, rfl, hT⟩; have HT := Lib.hid hT; clear hT)
            go_ret2
            have hh : hedgeR s.1 n allow = (s.1, []) := by
              unfold hedgeR
              rw [if_neg (by rw [HAF.out, HLA.out, ← HL3.out, HG1.out]; simp)]
            refine ⟨v, rfl, ?_⟩
            rw [HRS.out, hh]
            show Told _ _ _ _ _ s.1 v (s.2 ++ [])
            rw [List.append_nil]
            exact HT.out.trans (M1.out.trans M2.out)
end
end Go.Proofs.Ytlcblfkmadjppaa
