/- The reference: Time, those that are late; Time whole. -/
import Derived.Test.YtlcblfkmadjppaaGWalks8
namespace Go.Proofs.Ytlcblfkmadjppaa
open Go.RowKit
set_option linter.unusedVariables false
set_option linter.unusedSimpArgs false

section
variable {F : Nat → Prop} {w : World} {lo p : Nat} {r : Rq} {vi vb vo : Value} {o : List Ac}
/-- A row of numbers is none of the acts' and not the request's own block. -/
theorem row3_apart {I B : List Int} {v : Value} {n : Nat} {xs : List Value} {lo2 : Nat} (h : Gw w lo p r I vi B vb o vo) (hv : w.ownsRow lo2 3 1 v n xs) : ∀ k, v.ownBlock = some k → ¬ pfoot p vo k := fun k hk hf => by
  rcases hf with rfl | hf
  · exact ownsRow_ne hv h.blk (by decide) hk
  · exact own_own_ne hv h.out (by decide) k hk hf
structure GLateI (F : Nat → Prop) (w wr : World) (lo p : Nat) (r : Rq) (now : Nat) (allow : Bool) (v10 v11 : Value) (kk : Nat) (j : Nat) : Prop where
  rq : ∃ vi vb vo, GQ wr lo p (lates now allow (r.runs.take j) (r, [])).1 vi vb (lates now allow (r.runs.take j) (r, [])).2 vo ∧ Mv F (gfoot p vi vb vo) w wr
  ids : wr.ownsRow lo 3 1 v10 kk (ints (idsOf r.runs))
  beg : wr.ownsRow lo 3 1 v11 kk (ints (sincesOf r.runs))

set_option maxRecDepth 100000 in
set_option maxHeartbeats 6400000 in
theorem gtime_late (h : GQ w lo p r vi vb [] vo) (hok : Okq r) (ho : r.over = false) (n : Nat) (hn : n ≤ 4611686018427387904) (allow : Bool) (ht : ¬ later r.since r.pl.total ≤ n) :
    Calls Try.prog 18 #[.pointer (some ⟨p, 0, none⟩), .int .i64 n, .bool allow] w fun e w' =>
      ∃ v, e = .returned (.tuple #[v, .int .i64 0]) ∧ GTold (gfoot p vi vb vo) w w' lo p (hedgeR (lates n allow r.runs (r, [])).1 n allow).1 v ((lates n allow r.runs (r, [])).2 ++ (hedgeR (lates n allow r.runs (r, [])).1 n allow).2) := by
  obtain ⟨i66, hi66, hz0, hz1, hz2⟩ := info_parts Try.info66
  obtain ⟨kk, hkk⟩ : ∃ kk, kk = r.runs.length := ⟨_, rfl⟩
  obtain ⟨ai, ci, rfl, hci1, hci2, _, _⟩ := ownsRow_slice (show w.ownsRow lo 3 1 vi (idsOf r.runs).length (ints (idsOf r.runs)) from Gw.ids h)
  have hci3 : ci ≤ 9223372036854775807 := by unfold maxLen at hci2; omega
  obtain ⟨ab, cb, rfl, hcb1, hcb2, _, _⟩ := ownsRow_slice (show w.ownsRow lo 3 1 vb (sincesOf r.runs).length (ints (sincesOf r.runs)) from Gw.beg h)
  have hcb3 : cb ≤ 9223372036854775807 := by unfold maxLen at hcb2; omega
  rw [idsOf_len, sincesOf_len, ← hkk] at h
  rw [idsOf_len, ← hkk] at hci1
  rw [sincesOf_len, ← hkk] at hcb1
  rw [idsOf_len, sincesOf_len, ← hkk]
  clear hci2 hcb2
  have hn0 : (0 : Int) ≤ n := by omega
  have hn1 : (n : Int) ≤ 4611686018427387904 := by omega
  have hl9 := hok.len9
  have ht1 := hok.t1
  have hp5 := hok.p5.2
  have hp4 := hok.p4.2
  obtain ⟨L, hL⟩ : ∃ L, L = later r.since r.pl.total := ⟨_, rfl⟩
  rw [← hL] at ht
  have hlat : ∀ w : World, Calls Try.prog 38 #[.int .i64 r.since, .int .i64 r.pl.total] w fun e w' => e = .returned (.int .i64 L) ∧ w = w' := fun w => by rw [hL]; exact glater_any _ _ w ht1 hp5
  have hR : Gw w lo p r (idsOf r.runs) (.slice ai kk ci) (sincesOf r.runs) (.slice ab kk cb) [] vo := h
  rw [← hkk] at hl9
  have HOK := Lib.hid hok
  have HOV := Lib.hid ho
  have HLAT := Lib.hid hlat
  have d13 := hR.blk.cell 13 _ rfl
  rw [ho] at d13
  have d6 := hR.blk.cell 6 _ rfl
  have d4 := hR.blk.cell 4 _ rfl
  have d11 := hR.blk.cell 11 _ rfl
  have d12 := hR.blk.cell 12 _ rfl
  have hpl := hR.blk.lt
  have HR := Lib.hid hR
  have HKK := Lib.hid hkk
  have f1 : decide ((L : Int) ≤ (n : Int)) = false := decide_eq_false (by omega)
  have f1n : decide (L ≤ n) = false := decide_eq_false ht
  clear h hR hok ho hlat hL hkk ht1 hp5
  generalize r.since = sn at d6 HLAT
  generalize r.pl.total = tt at d4 HLAT
  obtain ⟨rr, hrr⟩ : ∃ rr, rr = ((hedgeR (lates n allow r.runs (r, [])).1 n allow).1, (lates n allow r.runs (r, [])).2 ++ (hedgeR (lates n allow r.runs (r, [])).1 n allow).2) := ⟨_, rfl⟩
  have e1 : (hedgeR (lates n allow r.runs (r, [])).1 n allow).1 = rr.1 := by rw [hrr]
  have e2 : (lates n allow r.runs (r, [])).2 ++ (hedgeR (lates n allow r.runs (r, [])).1 n allow).2 = rr.2 := by rw [hrr]
  rw [e1, e2]
  have HRES := Lib.hid hrr
  clear hrr e1 e2
  go_enter Try.func18, Try.ntmps18
  go_upto_region 5 with (first
    | (go_at_call 25; (with_reducible refine (rmoment_ok n _ hn0 hn1).mono ?_); rintro e w' ⟨rfl, rfl⟩))
  go_quiet ((go_at_call 38; refine (HLAT.out _).mono ?_; rintro e w' ⟨rfl, rfl⟩; exact ⟨rfl, _, rfl⟩))
  have hO0 : Only (fun _ => False) w (w.drewN nq) := (Drawn.of w nq).only (fun _ => False)
  have HM0 := Lib.hid (Mv.of_only (F := gfoot p (.slice ai kk ci) (.slice ab kk cb) vo) hO0)
  have HR0 := Lib.hid (HR.out.only hO0 (fun _ _ h => h))
  have d11' : (w.drewN nq).cell? ⟨p, 11, none⟩ = some (.slice ai kk ci) := d11
  have d12' : (w.drewN nq).cell? ⟨p, 12, none⟩ = some (.slice ab kk cb) := d12
  have hpl0 : p < (w.drewN nq).heap.size := hpl
  clear d11 d12 d4 d6 d13 hpl hO0
  generalize w.drewN nq = w1 at HM0 HR0 d11' d12' hpl0 ⊢
  go_upto_region 16 with fail
  clear d11' d12'
  have hI0 : GLateI (gfoot p (.slice ai kk ci) (.slice ab kk cb) vo) w w1 lo p r n allow (.slice ai kk ci) (.slice ab kk cb) kk 0 := by
    refine ⟨⟨_, _, _, HR0.out, HM0.out⟩, ?_, ?_⟩
    · have := HR0.out.ids; rwa [idsOf_len, ← HKK.out] at this
    · have := HR0.out.beg; rwa [sincesOf_len, ← HKK.out] at this
  have HI0 := Lib.hid hI0
  clear hI0
  go_loopw [12, 67] (fun _ i wr => ∃ j : Nat, j ≤ kk ∧ i = .int .i64 j ∧ GLateI (gfoot p (.slice ai kk ci) (.slice ab kk cb) vo) w wr lo p r n allow (.slice ai kk ci) (.slice ab kk cb) kk j) (fun _ i _ => kk - (intOf i).toNat)
  case atStart => exact ⟨0, Nat.zero_le _, rfl, HI0.out⟩
  case round =>
    obtain ⟨j, hj, rfl, hI⟩ := hrel
    by_cases hlt : j < kk
    · have hjr : j < r.runs.length := by rw [← HKK.out]; exact hlt
      obtain ⟨q1, q2, q3, q4⟩ := HOK.out.of_lates n allow hjr
      have hls := lates_take n allow r.runs (r, []) j hjr
      have hids := hI.ids
      have hbeg := hI.beg
      rw [show kk = (idsOf r.runs).length by rw [idsOf_len]; exact HKK.out] at hids
      rw [show kk = (sincesOf r.runs).length by rw [sincesOf_len]; exact HKK.out] at hbeg
      obtain ⟨gi, ei, hgi, e0⟩ := ints_at hids rfl (i := j) (by rw [idsOf_len]; exact hjr)
      obtain ⟨gb, eb, hgb, e1⟩ := ints_at hbeg rfl (i := j) (by rw [sincesOf_len]; exact hjr)
      rw [idsOf_get hjr] at e0
      rw [sincesOf_get hjr] at e1
      subst ei eb
      obtain ⟨x, hx⟩ : ∃ x, x = runAt r.runs j := ⟨_, rfl⟩
      rw [← hx] at e0 e1
      rw [← runAt_eq hjr, ← hx] at hls
      have hxs : x.since ≤ 4611686018427387904 := HOK.out.t3 x (by rw [hx, runAt_eq hjr]; exact List.getElem_mem hjr)
      have hxi : x.id < 1000000 := by
        have := HOK.out.lt x (by rw [hx, runAt_eq hjr]; exact List.getElem_mem hjr)
        have := HOK.out.made9
        omega
      obtain ⟨s, hs⟩ : ∃ s, s = lates n allow (r.runs.take j) (r, []) := ⟨_, rfl⟩
      have hrq := hI.rq
      rw [← hs] at q1 q2 q3 q4 hls hrq
      obtain ⟨vi2, vb2, vo2, h1, m1⟩ := hrq
      have HI := Lib.hid hI
      have Q1 := Lib.hid q1
      have HLS := Lib.hid hls
      have h1g : Gw wr lo p s.1 (idsOf s.1.runs) vi2 (sincesOf s.1.runs) vb2 s.2 vo2 := h1
      have b3 : wr.cell? ⟨p, 3, none⟩ = some (.int .i64 r.pl.per) := by rw [← q4]; exact h1g.blk.cell 3 _ rfl
      have hper : s.1.pl.per = r.pl.per := by rw [q4]
      have hplr := h1g.blk.lt
      have H1 := Lib.hid h1g
      have M1 := Lib.hid m1
      have HPER := Lib.hid hper
      clear hI q1 q2 q4 hls h1 h1g m1 hx hs hjr hper hids hbeg
      obtain ⟨L2, hL2⟩ : ∃ L2, L2 = later x.since r.pl.per := ⟨_, rfl⟩
      have hlat2 : ∀ w : World, Calls Try.prog 38 #[.int .i64 x.since, .int .i64 r.pl.per] w fun e w' => e = .returned (.int .i64 L2) ∧ w = w' := fun w => by rw [hL2]; exact glater_any _ _ w hxs hp4
      have HL2 := Lib.hid (show L2 = later x.since s.1.pl.per by rw [HPER.out]; exact hL2)
      have HLAT2 := Lib.hid hlat2
      clear hlat2 hL2
      generalize r.pl.per = per at b3 HLAT2 hp4 HPER
      go_upto_region 18 with fail
      by_cases hd : L2 ≤ n
      · have g1 : decide ((L2 : Int) ≤ (n : Int)) = true := decide_eq_true (by omega)
        have g1n : decide (L2 ≤ n) = true := decide_eq_true hd
        go_quiet ((go_at_call 38; refine (HLAT2.out _).mono ?_; rintro e w' ⟨rfl, rfl⟩; exact ⟨rfl, _, rfl⟩))
        have hO5 : Only (fun _ => False) wr (wr.drewN nq) := (Drawn.of wr nq).only (fun _ => False)
        have H5 := Lib.hid (H1.out.only hO5 (fun _ _ h => h))
        have HO5 := Lib.hid hO5
        have k0 : (wr.drewN nq).cell? ⟨gi, j, none⟩ = some (.int .i64 x.id) := e0
        have hgi5 : gi < (wr.drewN nq).heap.size := hgi
        have HID5 := Lib.hid (owns_only HI.out.ids hO5 (fun _ _ h => h))
        have HBG5 := Lib.hid (owns_only HI.out.beg hO5 (fun _ _ h => h))
        clear e0 e1 b3 hgi hgb hplr hO5
        generalize wr.drewN nq = w5 at H5 HO5 k0 hgi5 HID5 HBG5 ⊢
        go_upto_region 19 with fail
        have c15 := H5.out.blk.cell 15 _ rfl
        have f15 := H5.out.blk.free 15
        have hplA := H5.out.blk.lt
        have hloA : lo ≤ w5.heap.size := by have := H5.out.low; omega
        obtain ⟨ko, hko⟩ : ∃ k, k = s.2.length := ⟨_, rfl⟩
        have hOA := H5.out.out
        have hkl : ko ≤ 20 := by omega
        rw [← hko] at hOA
        obtain ⟨ao, co, hvo, hco1, hco2, _, _⟩ := ownsRow_slice hOA
        have hG0 := H5.out
        rw [hvo] at hOA c15 hG0
        have HOA := Lib.hid hOA
        have HG0 := Lib.hid hG0
        have HVO := Lib.hid hvo
        have HKO := Lib.hid hko
        have hngo : (Value.slice ao ko co).ownBlock ≠ some gi := fun e => row3_apart hG0 HID5.out gi rfl (.inr e)
        have HNGO := Lib.hid hngo
        clear hOA hG0 hvo hko hngo
        go_region_law (refine step_append_row rfl (.tmp 85) (.tmp 91) 42 rfl lo 66 i66 _ 3 24 Try.underlying42 hi66 hz0 hz1 hz2 rfl (by decide) (.slice ao ko co) ko (acCells s.2) rfl (HOA.out.alloc _) (some ⟨w5.heap.size, 0, none⟩) 1 1 (acCells [⟨2, x.id, 0⟩]) rfl rfl (fun _ => ⟨_, rfl, cells_new _ [.int .i64 2, .int .i64 x.id, .int .i64 0] _⟩) (fun e => by cases e) (ac_one _) (by unfold maxLen; omega) (by omega) (by first | (simp only [World.size_drew, World.size_alloc]; omega) | (simp only [World.size_alloc]; omega) | (simp; omega)) ?_; intro v9 w9 hown9 hon9 hat9 _; obtain ⟨a9, k9, rfl, _, _, _, _⟩ := ownsRow_slice hown9; have hon9' : Only (fun i => (Value.slice ao ko co).ownBlock = some i) (w5.alloc (.cells #[.int .i64 2, .int .i64 x.id, .int .i64 0] 66)) w9 := ⟨hon9.os, hon9.tape, hon9.output, hon9.size, hon9.block⟩; have hb9 := (HG0.out.blk.alloc (.cells #[.int .i64 2, .int .i64 x.id, .int .i64 0] 66)).only hon9' (fun e => HG0.out.no e); have e15 := hb9.cell 15 _ rfl; have g15 := hb9.free 15; have HO9 := Lib.hid hown9; have HN9 := Lib.hid hon9'; have HA9 := Lib.hid hat9; clear hown9 hon9 hon9' hat9 hb9)
        all_goals
          go_upto_region 20 with fail
          have hA := HG0.out.appOut (acts := [⟨2, x.id, 0⟩]) ((Only.refl _ w5).alloc (.cells #[.int .i64 2, .int .i64 x.id, .int .i64 0] 66)) (by rw [← HKO.out]; exact HO9.out) HN9.out (by have h := HA9.out; first | exact h | (simp only [World.size_drew, World.size_alloc] at h; exact h)) (Nat.le_succ _)
          have HA := Lib.hid hA
          clear hA e15 g15 c15 f15
          generalize w9.setCell ⟨p, 15, none⟩ (.slice a9 (ko + 1) k9) = w6 at HA ⊢
          have hid6 := owns_only HID5.out HA.out.2.only (fun k hk => row3_apart HG0.out HID5.out k hk)
          have hbg6 := owns_only HBG5.out HA.out.2.only (fun k hk => row3_apart HG0.out HBG5.out k hk)
          have k6 : w6.cell? ⟨gi, j, none⟩ = some (.int .i64 x.id) := (World.cell?_of_block (a := ⟨gi, j, none⟩) (HA.out.2.only.block gi hgi5 (row3_apart HG0.out HID5.out gi rfl))).trans k0
          have hgi6 : gi < w6.heap.size := Nat.lt_of_lt_of_le hgi5 HA.out.2.only.size
          have hg6 : GQ w6 lo p s.1 vi2 vb2 (s.2 ++ [⟨2, x.id, 0⟩]) (.slice a9 (ko + 1) k9) := HA.out.1
          have hfl := gfails_any hg6 Q1.out (by rw [List.length_append, List.length_singleton]; omega) n hn x.id 3 (by decide) allow
          have HFL := Lib.hid hfl
          have HID6 := Lib.hid hid6
          have HBG6 := Lib.hid hbg6
          clear hid6 hbg6 hg6 hfl k0
          go_wp2_with (go_at_call 34; (refine HFL.out.mono ?_); rintro e w7 ⟨rfl, vi7, vb7, vo7, h7, m7⟩; have H7 := Lib.hid h7; have M7 := Lib.hid m7; clear h7 m7)
          go_roundw
          case rel =>
            have he : lates n allow (r.runs.take (j + 1)) (r, []) = ((failsR s.1 n x.id 3 allow).1, s.2 ++ [⟨2, x.id, 0⟩] ++ (failsR s.1 n x.id 3 allow).2) := by
              rw [HLS.out]
              unfold late1
              rw [if_pos (by rw [← HL2.out]; exact hd)]
            refine ⟨j + 1, by omega, by go_num, ⟨⟨vi7, vb7, vo7, by rw [he]; exact H7.out, ?_⟩, owns_only HID6.out M7.out.only (fun k hk => row3_apart HA.out.1 HID6.out k hk), owns_only HBG6.out M7.out.only (fun k hk => row3_apart HA.out.1 HBG6.out k hk)⟩⟩
            have m := M1.out.trans (Mv.of_only HO5.out)
            rw [HVO.out] at m
            exact (m.trans (HA.out.2.p_gg vi2 vb2)).trans (M7.out.p_g vi2 vb2)
          case measure => simp [intOf]; omega
      · have g1 : decide ((L2 : Int) ≤ (n : Int)) = false := decide_eq_false (by omega)
        have g1n : decide (L2 ≤ n) = false := decide_eq_false hd
        go_quiet ((go_at_call 38; refine (HLAT2.out _).mono ?_; rintro e w' ⟨rfl, rfl⟩; exact ⟨rfl, _, rfl⟩))
        go_wp2_with fail
        go_roundw
        case rel =>
          have hO5 : Only (fun _ => False) wr (wr.drewN nq) := (Drawn.of wr nq).only (fun _ => False)
          have he : lates n allow (r.runs.take (j + 1)) (r, []) = s := by
            rw [HLS.out]
            unfold late1
            rw [if_neg (by rw [← HL2.out]; exact hd)]
          exact ⟨j + 1, by omega, by go_num, ⟨⟨vi2, vb2, vo2, by rw [he]; exact H1.out.only hO5 (fun _ _ h => h), M1.out.trans (Mv.of_only hO5)⟩, owns_only HI.out.ids hO5 (fun _ _ h => h), owns_only HI.out.beg hO5 (fun _ _ h => h)⟩⟩
        case measure => simp [intOf]; omega
    · obtain ⟨vi1, vb1, vo1, h1, m1⟩ := hI.rq
      rw [List.take_of_length_le (by rw [← HKK.out]; omega)] at h1
      obtain ⟨q1, q2, q3⟩ := HOK.out.of_lates_all HOV.out n hn allow
      obtain ⟨s, hs⟩ : ∃ s, s = lates n allow r.runs (r, []) := ⟨_, rfl⟩
      rw [← hs] at h1 q1 q2 q3
      have H1 := Lib.hid h1
      have HG1 := Lib.hid (show Gw wr lo p s.1 (idsOf s.1.runs) vi1 (sincesOf s.1.runs) vb1 s.2 vo1 from h1)
      have M1 := Lib.hid m1
      have Q1 := Lib.hid q1
      have hres : rr = ((hedgeR s.1 n allow).1, s.2 ++ (hedgeR s.1 n allow).2) := by rw [HRES.out, ← hs]
      have HRS := Lib.hid hres
      clear hI h1 m1 q1 q3 hs hres
      have c7 := HG1.out.blk.cell 7 _ rfl
      have c2 := HG1.out.blk.cell 2 _ rfl
      have hplr := HG1.out.blk.lt
      have hHG := fun (w' : World) (hd : Drawn wr w') => ghedging_any (show GQ w' lo p s.1 vi1 vb1 s.2 vo1 from HG1.out.only (hd.only (fun _ => False)) (fun _ _ h => h)) Q1.out.w
      obtain ⟨b, hb⟩ : ∃ b, b = (!s.1.over && hedging s.1) := ⟨_, rfl⟩
      simp only [← hb] at hHG
      obtain ⟨L3, hL3⟩ : ∃ L3, L3 = later s.1.last s.1.pl.after := ⟨_, rfl⟩
      have ht2 := Q1.out.t2
      have hp3 := Q1.out.p3.2
      have hlat3 : ∀ w : World, Calls Try.prog 38 #[.int .i64 s.1.last, .int .i64 s.1.pl.after] w fun e w' => e = .returned (.int .i64 L3) ∧ w = w' := fun w => by rw [hL3]; exact glater_any _ _ w ht2 hp3
      have HHG := Lib.hid hHG
      have HLAT3 := Lib.hid hlat3
      have HB := Lib.hid hb
      have HL3 := Lib.hid hL3
      clear hHG hlat3 hb hL3 ht2 hp3
      generalize haf : s.1.pl.after = af at c2 HLAT3 HL3
      generalize hla : s.1.last = la at c7 HLAT3 HL3
      have HAF := Lib.hid haf
      have HLA := Lib.hid hla
      clear haf hla
      go_upto_region 22 with fail
      have hcase : (b = false) ∨ (b = true ∧ ¬ L3 ≤ n) ∨ (b = true ∧ L3 ≤ n) := by
        cases b with
        | false => exact .inl rfl
        | true => by_cases h : L3 ≤ n; exact .inr (.inr ⟨rfl, h⟩); exact .inr (.inl ⟨rfl, h⟩)
      have hNo : ∀ (_ : hedgeR s.1 n allow = (s.1, [])) {w8 w9 : World}, Mv (gfoot p vi1 vb1 vo1) (gfoot p vi1 vb1 vo1) wr w8 → GQ w8 lo p s.1 vi1 vb1 s.2 vo1 → Gw w9 lo p s.1 (idsOf s.1.runs) vi1 (sincesOf s.1.runs) vb1 [] (.slice none 0 0) → Only (fun k => k = p) w8 w9 → w9.ownsRow lo 66 3 vo1 s.2.length (acCells s.2) →
          GTold (gfoot p (.slice ai kk ci) (.slice ab kk cb) vo) w w9 lo p rr.1 vo1 rr.2 := fun hh w8 w9 m2 hg8 hg9 ho9 hv9 => by
        rw [HRS.out, hh]
        show GTold _ _ _ _ _ s.1 _ (s.2 ++ [])
        rw [List.append_nil]
        exact gtold_of (M1.out.trans m2) hg8 hg9 ho9 hv9
      have HNO := Lib.hid @hNo
      clear hNo
      rcases hcase with rfl | ⟨rfl, hd⟩ | ⟨rfl, hd⟩
      · go_quiet ((first
          | (go_at_call 39; refine (HHG.out _ (Drawn.of wr _)).mono ?_; rintro e w' ⟨rfl, hd⟩; exact ⟨rfl, (Drawn.of wr _).trans hd⟩)
          | (go_at_call 38; refine (HLAT3.out _).mono ?_; rintro e w' ⟨rfl, rfl⟩; exact ⟨rfl, _, rfl⟩)))
        have hO2 : Only (fun _ => False) wr (wr.drewN nq) := (Drawn.of wr nq).only (fun _ => False)
        have H2 := Lib.hid (show GQ (wr.drewN nq) lo p s.1 vi1 vb1 s.2 vo1 from HG1.out.only hO2 (fun _ _ h => h))
        have M2 := Lib.hid (Mv.of_only (F := gfoot p vi1 vb1 vo1) hO2)
        clear c7 c2 hplr hO2
        generalize wr.drewN nq = w8 at H2 M2 ⊢
        go_wp2_with (go_at_call 32; (with_reducible refine (gqtold_any H2.out).mono ?_); rintro e w9 ⟨rfl, h9, ho9, hv9⟩; have H9 := Lib.hid h9; have HO9 := Lib.hid ho9; have HV9 := Lib.hid hv9; clear h9 ho9 hv9)
        go_ret2
        refine ⟨_, rfl, HNO.out ?_ M2.out H2.out H9.out HO9.out HV9.out⟩
        unfold hedgeR
        rw [if_neg (by rw [← HB.out]; simp)]
      · have g1 : decide ((L3 : Int) ≤ (n : Int)) = false := decide_eq_false (by omega)
        have g1n : decide (L3 ≤ n) = false := decide_eq_false hd
        have HG1n := Lib.hid g1n
        go_quiet ((first
          | (go_at_call 39; refine (HHG.out _ (Drawn.of wr _)).mono ?_; rintro e w' ⟨rfl, hd⟩; exact ⟨rfl, (Drawn.of wr _).trans hd⟩)
          | (go_at_call 38; refine (HLAT3.out _).mono ?_; rintro e w' ⟨rfl, rfl⟩; exact ⟨rfl, _, rfl⟩)))
        have hO2 : Only (fun _ => False) wr (wr.drewN nq) := (Drawn.of wr nq).only (fun _ => False)
        have H2 := Lib.hid (show GQ (wr.drewN nq) lo p s.1 vi1 vb1 s.2 vo1 from HG1.out.only hO2 (fun _ _ h => h))
        have M2 := Lib.hid (Mv.of_only (F := gfoot p vi1 vb1 vo1) hO2)
        clear c7 c2 hplr hO2
        generalize wr.drewN nq = w8 at H2 M2 ⊢
        go_wp2_with (go_at_call 32; (with_reducible refine (gqtold_any H2.out).mono ?_); rintro e w9 ⟨rfl, h9, ho9, hv9⟩; have H9 := Lib.hid h9; have HO9 := Lib.hid ho9; have HV9 := Lib.hid hv9; clear h9 ho9 hv9)
        go_ret2
        refine ⟨_, rfl, HNO.out ?_ M2.out H2.out H9.out HO9.out HV9.out⟩
        unfold hedgeR
        rw [if_neg (by rw [HAF.out, HLA.out, ← HL3.out, HG1n.out]; simp)]
      · have g1 : decide ((L3 : Int) ≤ (n : Int)) = true := decide_eq_true (by omega)
        have g1n : decide (L3 ≤ n) = true := decide_eq_true hd
        have HD := Lib.hid hd
        go_quiet ((first
          | (go_at_call 39; refine (HHG.out _ (Drawn.of wr _)).mono ?_; rintro e w' ⟨rfl, hd⟩; exact ⟨rfl, (Drawn.of wr _).trans hd⟩)
          | (go_at_call 38; refine (HLAT3.out _).mono ?_; rintro e w' ⟨rfl, rfl⟩; exact ⟨rfl, _, rfl⟩)))
        have hO2 : Only (fun _ => False) wr (wr.drewN nq) := (Drawn.of wr nq).only (fun _ => False)
        have H2 := Lib.hid (HG1.out.only hO2 (fun _ _ h => h))
        have M2 := Lib.hid (Mv.of_only (F := gfoot p vi1 vb1 vo1) hO2)
        clear c7 c2 hplr hO2
        generalize wr.drewN nq = w8 at H2 M2 ⊢
        have hgd : decide (later s.1.last s.1.pl.after ≤ n) = true := by rw [HAF.out, HLA.out, ← HL3.out]; exact decide_eq_true HD.out
        have hbb := HB.out.symm
        simp only [hedging, Bool.and_eq_true, Bool.not_eq_true', decide_eq_true_eq] at hbb
        obtain ⟨hov, ⟨htm, hhe⟩, hru⟩ := hbb
        have hhd := Q1.out.p2
        have hm9 := Q1.out.made9
        have hr9 := Q1.out.len9
        have hh9 : s.1.hedged ≤ 3 := by omega
        have HM9 := Lib.hid hm9
        have HR9 := Lib.hid hr9
        have HGD := Lib.hid hgd
        clear hm9 hr9 hgd hov htm hhe hru hhd hd
        cases allow with
        | true =>
          have c10 : w8.cell? ⟨p, 10, none⟩ = some (.int .i64 s.1.hedged) := H2.out.blk.cell 10 _ rfl
          have f10 := H2.out.blk.free 10
          have hpl3 := H2.out.blk.lt
          have h4 := H2.out.setF (i := 10) (u := .int .i64 ((s.1.hedged : Int) + 1)) (r' := { s.1 with hedged := s.1.hedged + 1 }) (by rfl)
          obtain ⟨hg, hhg⟩ : ∃ hg, hg = s.1.hedged := ⟨_, rfl⟩
          rw [← hhg] at c10 h4 hh9
          have H4 := Lib.hid h4
          have HHG2 := Lib.hid hhg
          clear h4 hhg
          go_upto_region 25 with fail
          generalize w8.setCell ⟨p, 10, none⟩ (.int .i64 ((hg : Int) + 1)) = w10 at H4 ⊢
          have htr := gmake_any H4.out.1 (by show s.1.made ≤ 20; have := HM9.out; omega) (by rw [idsOf_len]; have := HR9.out; omega) (by rw [sincesOf_len]; have := HR9.out; omega) (by omega) n hn 2
          have HT := Lib.hid htr
          clear htr c10 f10
          go_upto_region 27 with (go_at_call 31; (refine HT.out.mono ?_); rintro e w11 ⟨rfl, vi5, vb5, vo5, h5, m5⟩; have H5 := Lib.hid h5; have M5 := Lib.hid m5; clear h5 m5)
          have hg5 : GQ w11 lo p (tryR { s.1 with hedged := hg + 1 } n) vi5 vb5 (s.2 ++ [⟨1, s.1.made, 2⟩]) vo5 := by
            unfold GQ
            have hr : (tryR { s.1 with hedged := hg + 1 } n).runs = s.1.runs ++ [⟨s.1.made, n⟩] := rfl
            rw [hr, (idsOf_snoc _ _ _).1, (idsOf_snoc _ _ _).2]
            exact H5.out.re rfl
          have HG5 := Lib.hid hg5
          clear hg5
          go_wp2_with (go_at_call 32; (with_reducible refine (gqtold_any HG5.out).mono ?_); rintro e w9 ⟨rfl, h9, ho9, hv9⟩; have H9 := Lib.hid h9; have HO9 := Lib.hid ho9; have HV9 := Lib.hid hv9; clear h9 ho9 hv9)
          go_ret2
          have hh : hedgeR s.1 n true = (tryR { s.1 with hedged := hg + 1 } n, [⟨1, s.1.made, 2⟩]) := by
            unfold hedgeR
            rw [if_pos (by rw [← HB.out, HGD.out]; rfl), if_pos rfl, HHG2.out]
          refine ⟨_, rfl, ?_⟩
          rw [HRS.out, hh]
          exact gtold_of (M1.out.trans (M2.out.trans ((H4.out.2.ofp (.inl rfl)).trans M5.out))) HG5.out H9.out HO9.out HV9.out
        | false =>
          have c14 := H2.out.blk.cell 14 _ rfl
          have f14 := H2.out.blk.free 14
          have hpl3 := H2.out.blk.lt
          have h4 := H2.out.setF (i := 14) (u := .bool true) (r' := { s.1 with tame := true }) (by rfl)
          have H4 := Lib.hid h4
          clear h4
          go_upto_region 27 with fail
          generalize w8.setCell ⟨p, 14, none⟩ (.bool true) = w10 at H4 ⊢
          have HG5 := Lib.hid (show GQ w10 lo p { s.1 with tame := true } vi1 vb1 s.2 vo1 from H4.out.1)
          clear c14 f14
          go_wp2_with (go_at_call 32; (with_reducible refine (gqtold_any HG5.out).mono ?_); rintro e w9 ⟨rfl, h9, ho9, hv9⟩; have H9 := Lib.hid h9; have HO9 := Lib.hid ho9; have HV9 := Lib.hid hv9; clear h9 ho9 hv9)
          go_ret2
          have hh : hedgeR s.1 n false = ({ s.1 with tame := true }, []) := by
            unfold hedgeR
            rw [if_pos (by rw [← HB.out, HGD.out]; rfl), if_neg (by decide)]
          refine ⟨_, rfl, ?_⟩
          rw [HRS.out, hh]
          show GTold _ _ _ _ _ _ _ (s.2 ++ [])
          rw [List.append_nil]
          exact gtold_of (M1.out.trans (M2.out.trans (H4.out.2.ofp (.inl rfl)))) HG5.out H9.out HO9.out HV9.out

theorem gtime_any (h : GQ w lo p r vi vb [] vo) (hok : Okq r) (now : Int) (allow : Bool) :
    Calls Try.prog 18 #[.pointer (some ⟨p, 0, none⟩), .int .i64 now, .bool allow] w fun e w' =>
      ∃ v, e = .returned (.tuple #[v, .int .i64 (timeI r now allow).2.2]) ∧ GTold (gfoot p vi vb vo) w w' lo p (timeI r now allow).1 v (timeI r now allow).2.1 := by
  unfold timeI
  by_cases hm : isMoment now
  · rw [if_neg (fun h => h hm)]
    have hm0 := hm
    obtain ⟨h0, h1⟩ := hm0
    obtain ⟨n, rfl⟩ : ∃ n : Nat, now = n := ⟨now.toNat, by omega⟩
    have hn : n ≤ 4611686018427387904 := by omega
    have hn0 : (0 : Int) ≤ n := by omega
    have hn1 : (n : Int) ≤ 4611686018427387904 := by omega
    rw [Int.toNat_natCast]
    clear h0 h1 hm
    cases hov : r.over with
    | true =>
      have ht : timeR r n allow = (r, []) := by unfold timeR; rw [if_pos hov]
      rw [ht]
      have c13 : w.cell? ⟨p, 13, none⟩ = some (.bool true) := by rw [← hov]; exact Blk.cell (Gw.blk h) 13 _ rfl
      have hpl := Blk.lt (Gw.blk h)
      have H := Lib.hid h
      clear h hok hov ht
      go_enter Try.func18, Try.ntmps18
      go_wp2_with (first
        | (go_at_call 25; (with_reducible refine (rmoment_ok n _ hn0 hn1).mono ?_); rintro e w' ⟨rfl, rfl⟩))
      go_ret2
      exact ⟨_, rfl, GTold.none_ H.out (Only.refl _ _)⟩
    | false =>
      by_cases ht : later r.since r.pl.total ≤ n
      · have e : timeR r n allow = (isOver r, cancels r.runs ++ [⟨4, -1, 504⟩]) := by
          unfold timeR
          rw [if_neg (by rw [hov]; decide), if_pos ht]
          rfl
        rw [e]
        exact gtime_total h hok hov n hn allow ht
      · have e : timeR r n allow = ((hedgeR (lates n allow r.runs (r, [])).1 n allow).1, (lates n allow r.runs (r, [])).2 ++ (hedgeR (lates n allow r.runs (r, [])).1 n allow).2) := by
          unfold timeR
          rw [if_neg (by rw [hov]; decide), if_neg ht]
        rw [e]
        exact gtime_late h hok hov n hn allow ht
  · rw [if_pos hm]
    have hb : now < 0 ∨ 4611686018427387904 < now := by unfold isMoment at hm; omega
    have HB := Lib.hid hb
    have H := Lib.hid h
    clear hm hb h hok
    go_enter Try.func18, Try.ntmps18
    go_wp2_with (go_at_call 25; (with_reducible refine (rmoment_bad now _ HB.out).mono ?_); rintro e w' ⟨rfl, rfl⟩)
    go_ret2
    exact ⟨_, rfl, GTold.none_ H.out (Only.refl _ _)⟩
end
end Go.Proofs.Ytlcblfkmadjppaa
