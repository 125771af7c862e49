/- The reference: Head. -/
import Derived.Test.YtlcblfkmadjppaaGWalks5
namespace Go.Proofs.Ytlcblfkmadjppaa
open Go.RowKit
set_option linter.unusedVariables false
set_option linter.unusedSimpArgs false

section
variable {w : World} {lo p : Nat} {r : Rq} {vi vb vo : Value} {o : List Ac}
theorem keep_one {r : Rq} {id : Int} (hh : hasR r id = true) (hl : r.runs.length ≤ 1) : keep r.runs id = [] := by
  unfold hasR at hh
  rw [Bool.and_eq_true, List.any_eq_true] at hh
  obtain ⟨x, hx, e⟩ := hh.2
  match hr : r.runs, hl with
  | [], _ => rfl
  | [y], _ =>
    rw [hr] at hx
    rw [List.mem_singleton.1 hx] at e
    unfold keep
    rw [List.filter_cons_of_neg (by simpa using e), List.filter_nil]
theorem Mv.p_g {F' : Nat → Prop} {w w' : World} (h : Mv (pfoot p vo) F' w w') (vi vb : Value) : Mv (gfoot p vi vb vo) F' w w' :=
  ⟨h.only.mono (fun k _ hk => hk.imp (fun h => h) (fun h => .inr (.inr h))), fun k hk => (h.new_ k hk).imp (fun h => h.imp (fun h => h) (fun h => .inr (.inr h))) (fun h => h)⟩
/-- Acts were appended; numbers and beginnings stay. -/
theorem Mv.p_gg {v2 : Value} {w w' : World} (h : Mv (pfoot p vo) (pfoot p v2) w w') (vi vb : Value) : Mv (gfoot p vi vb vo) (gfoot p vi vb v2) w w' :=
  ⟨h.only.mono (fun k _ hk => hk.imp (fun h => h) (fun h => .inr (.inr h))), fun k hk => by
    rcases hk with hk | hk | hk | hk
    · exact .inl (.inl hk)
    · exact .inl (.inr (.inl hk))
    · exact .inl (.inr (.inr (.inl hk)))
    · rcases h.new_ k (.inr hk) with h | h
      · exact .inl (h.imp (fun h => h) (fun h => .inr (.inr h)))
      · exact .inr h⟩

set_option maxRecDepth 100000 in
set_option maxHeartbeats 6400000 in
theorem ghead_bad (h : GQ w lo p r vi vb [] vo) (hok : Okq r) (n : Nat) (hn : n ≤ 4611686018427387904) (id status : Int) (allow : Bool) (hh : hasR r id = true)
    (hb1 : badS status = true) (hb2 : (mayR r 5 allow || decide (1 < r.runs.length)) = true) :
    Calls Try.prog 17 #[.pointer (some ⟨p, 0, none⟩), .int .i64 n, .int .i64 id, .int .i64 status, .bool allow] w fun e w' =>
      ∃ v, e = .returned (.tuple #[v, .int .i64 0]) ∧ GTold (gfoot p vi vb vo) w w' lo p (headR r n id status allow).1 v (headR r n id status allow).2 := by
  obtain ⟨i66, hi66, hz0, hz1, hz2⟩ := info_parts Try.info66
  have hst : status = 502 ∨ status = 503 ∨ status = 504 := by
    unfold badS at hb1
    rw [Bool.and_eq_true] at hb1
    have h1 := of_decide_eq_true hb1.1
    have h2 := of_decide_eq_true hb1.2
    omega
  have hfin : headR r n id status allow = if keep r.runs id ≠ [] then (endR r id, [⟨2, id, 0⟩]) else (againR (endR r id) n, [⟨2, id, 0⟩, ⟨1, r.made, 1⟩]) := by
    unfold headR
    rw [if_pos (by rw [hb1, hb2]; rfl)]
  have hn0 : (0 : Int) ≤ n := by omega
  have hn1 : (n : Int) ≤ 4611686018427387904 := by omega
  have hl9 := hok.len9
  have ha9 : r.again ≤ 5 := by have := hok.a1; have := hok.p1; omega
  have hol : ([] : List Ac).length ≤ 20 := by decide
  have H := Lib.hid h
  have HOK := Lib.hid hok
  have HH := Lib.hid hh
  have HL := Lib.hid (show r.runs.length ≤ 64 by omega)
  have HL20 := Lib.hid (show r.runs.length ≤ 20 by omega)
  have HM := Lib.hid hok.made9
  obtain ⟨kk, hkk⟩ : ∃ kk, kk = r.runs.length := ⟨_, rfl⟩
  obtain ⟨hplq, xo, xc, c11, hxc1, hxc2⟩ := gq_ids h hkk.symm
  rw [← hkk] at hl9 hb2
  by_cases hk1 : 1 < kk
  · have hke := keep_two hok.ids (id := id) (by rw [← hkk]; exact hk1)
    rw [hfin, if_pos hke]
    have HKK := Lib.hid hkk
    clear h hok hh hb1 hb2 hfin hkk hke
    have f1 : decide (1 < (kk : Int)) = true := decide_eq_true (by omega)
    have f1n : decide (1 < kk) = true := decide_eq_true hk1
    have HG := Lib.hid (show Gw w lo p r (idsOf r.runs) vi (sincesOf r.runs) vb [] vo from H.out)
    rcases hst with rfl | rfl | rfl
    all_goals
      go_enter Try.func17, Try.ntmps17
      go_upto_region 9 with (first
        | (go_at_call 25; (with_reducible refine (rmoment_ok n _ hn0 hn1).mono ?_); rintro e w' ⟨rfl, rfl⟩)
        | (go_at_call 33; (with_reducible refine (gruns_any H.out HL.out id).mono ?_); rintro e w' ⟨rfl, rfl⟩; rw [HH.out]))
      clear c11
      have c15 := HG.out.blk.cell 15 _ rfl
      have f15 := HG.out.blk.free 15
      have hplA := HG.out.blk.lt
      have hloA : lo ≤ w.heap.size := by have := HG.out.low; omega
      obtain ⟨ko, hko⟩ : ∃ k, k = ([]).length := ⟨_, rfl⟩
      have hOA := HG.out.out
      have hkl : ko ≤ 20 := by rw [hko]; exact hol
      rw [← hko] at hOA
      obtain ⟨ao, co, hvo, hco1, hco2, _, _⟩ := ownsRow_slice hOA
      have hG0 := HG.out
      rw [hvo] at hOA c15 hG0
      have HOA := Lib.hid hOA
      have HG0 := Lib.hid hG0
      have HVO := Lib.hid hvo
      have HKO := Lib.hid hko
      clear hOA hG0 hvo hko
      go_upto_region 10 with (at_builtin; refine wpList_append_row rfl (.tmp 51) (.tmp 54) 42 rfl lo 66 i66 _ 3 24 Try.underlying42 hi66 hz0 hz1 hz2 rfl (by decide) (.slice ao ko co) ko (acCells ([])) rfl (HOA.out.alloc _) (some ⟨w.heap.size, 0, none⟩) 1 1 (acCells [⟨2, id, 0⟩]) rfl rfl (fun _ => ⟨_, rfl, cells_new _ [.int .i64 2, .int .i64 id, .int .i64 0] _⟩) (fun e => by cases e) (ac_one _) (by unfold maxLen; omega) (by omega) (by simp only [World.size_alloc]; omega) ?_)
      intro vA wA hownA honA hatA _
      obtain ⟨aA, kA, rfl, _, _, _, _⟩ := ownsRow_slice hownA
      have hbA := (HG0.out.blk.alloc (.cells #[.int .i64 2, .int .i64 id, .int .i64 0] 66)).only honA (fun e => HG0.out.no e)
      have e15 := hbA.cell 15 _ rfl
      have g15 := hbA.free 15
      have hA := HG0.out.appOut (acts := [⟨2, id, 0⟩]) ((Only.refl _ w).alloc (.cells #[.int .i64 2, .int .i64 id, .int .i64 0] 66)) (by rw [← HKO.out]; exact hownA) honA (by first | exact hatA | (simp only [World.size_alloc] at hatA; exact hatA)) (Nat.le_succ _)
      have HA := Lib.hid hA
      clear hA hbA hownA honA hatA c15 f15
      go_upto_region 10 with fail
      generalize wA.setCell ⟨p, 15, none⟩ (.slice aA (ko + 1) kA) = w3 at HA ⊢
      clear e15 g15
      have hG3 : GQ w3 lo p r vi vb [⟨2, id, 0⟩] (.slice aA (ko + 1) kA) := by have h := HA.out.1; exact h
      have M3 := Lib.hid HA.out.2
      have hend := gend_any hG3 HL20.out (small_ids HOK.out.w) id
      have HEND := Lib.hid hend
      clear hG3 hend
      go_wp2_with (first
        | (go_at_call 35; (refine HEND.out.mono ?_); rintro e w4 ⟨rfl, vi4, vb4, h4, m4⟩; have H4 := Lib.hid h4; have M4 := Lib.hid m4; clear h4 m4)
        | (go_at_call 32; (with_reducible refine (gqtold_any H4.out).mono ?_); rintro e w5 ⟨rfl, h5, ho5, hv5⟩; have H5 := Lib.hid h5; have HO5 := Lib.hid ho5; have HV5 := Lib.hid hv5; clear h5 ho5 hv5))
      go_ret2
      refine ⟨_, rfl, gtold_of ?_ H4.out H5.out HO5.out HV5.out⟩
      rw [HVO.out]
      exact (M3.out.p_gg vi vb).trans (M4.out.p_g vi vb)
  · have hmay : mayR r 5 allow = true := by
      rw [Bool.or_eq_true] at hb2
      rcases hb2 with h | h
      · exact h
      · exact absurd (of_decide_eq_true h) hk1
    have hke := keep_one hh (by rw [← hkk]; omega)
    rw [hfin, if_neg (fun h => h hke)]
    have HKK := Lib.hid hkk
    have HKE := Lib.hid hke
    have HMY := Lib.hid hmay
    clear h hok hh hb1 hb2 hfin hkk hke hmay
    have f1 : decide (1 < (kk : Int)) = false := decide_eq_false (by omega)
    have f1n : decide (1 < kk) = false := decide_eq_false hk1
    have hmy := fun w' (hd : Drawn w w') => gqmay_any (Gw.only H.out (hd.only (fun _ => False)) (fun _ _ h => h) : GQ w' lo p r vi vb [] vo) HOK.out.w 5 allow
    rw [HMY.out] at hmy
    have HMA := Lib.hid (hmy w (Drawn.refl w))
    clear hmy
    rcases hst with rfl | rfl | rfl
    all_goals
      go_enter Try.func17, Try.ntmps17
      go_upto_region 13 with (first
        | (go_at_call 25; (with_reducible refine (rmoment_ok n _ hn0 hn1).mono ?_); rintro e w' ⟨rfl, rfl⟩)
        | (go_at_call 33; (with_reducible refine (gruns_any H.out HL.out id).mono ?_); rintro e w' ⟨rfl, rfl⟩; rw [HH.out])
        | (go_at_call 36; (refine HMA.out.mono ?_); rintro e w2 ⟨rfl, hD⟩; have HD := Lib.hid (hD.only (fun _ => False)); clear hD))
      clear c11
      have HG := Lib.hid (show Gw w2 lo p r (idsOf r.runs) vi (sincesOf r.runs) vb [] vo from Gw.only H.out HD.out (fun _ _ h => h))
      have c15 := HG.out.blk.cell 15 _ rfl
      have f15 := HG.out.blk.free 15
      have hplA := HG.out.blk.lt
      have hloA : lo ≤ w2.heap.size := by have := HG.out.low; omega
      obtain ⟨ko, hko⟩ : ∃ k, k = ([]).length := ⟨_, rfl⟩
      have hOA := HG.out.out
      have hkl : ko ≤ 20 := by rw [hko]; exact hol
      rw [← hko] at hOA
      obtain ⟨ao, co, hvo, hco1, hco2, _, _⟩ := ownsRow_slice hOA
      have hG0 := HG.out
      rw [hvo] at hOA c15 hG0
      have HOA := Lib.hid hOA
      have HG0 := Lib.hid hG0
      have HVO := Lib.hid hvo
      have HKO := Lib.hid hko
      clear hOA hG0 hvo hko
      go_upto_region 14 with (at_builtin; refine wpList_append_row rfl (.tmp 73) (.tmp 76) 42 rfl lo 66 i66 _ 3 24 Try.underlying42 hi66 hz0 hz1 hz2 rfl (by decide) (.slice ao ko co) ko (acCells ([])) rfl (HOA.out.alloc _) (some ⟨w2.heap.size, 0, none⟩) 1 1 (acCells [⟨2, id, 0⟩]) rfl rfl (fun _ => ⟨_, rfl, cells_new _ [.int .i64 2, .int .i64 id, .int .i64 0] _⟩) (fun e => by cases e) (ac_one _) (by unfold maxLen; omega) (by omega) (by simp only [World.size_alloc]; omega) ?_)
      intro vA wA hownA honA hatA _
      obtain ⟨aA, kA, rfl, _, _, _, _⟩ := ownsRow_slice hownA
      have hbA := (HG0.out.blk.alloc (.cells #[.int .i64 2, .int .i64 id, .int .i64 0] 66)).only honA (fun e => HG0.out.no e)
      have e15 := hbA.cell 15 _ rfl
      have g15 := hbA.free 15
      have hA := HG0.out.appOut (acts := [⟨2, id, 0⟩]) ((Only.refl _ w2).alloc (.cells #[.int .i64 2, .int .i64 id, .int .i64 0] 66)) (by rw [← HKO.out]; exact hownA) honA (by first | exact hatA | (simp only [World.size_alloc] at hatA; exact hatA)) (Nat.le_succ _)
      have HA := Lib.hid hA
      clear hA hbA hownA honA hatA c15 f15
      go_upto_region 14 with fail
      generalize wA.setCell ⟨p, 15, none⟩ (.slice aA (ko + 1) kA) = w3 at HA ⊢
      clear e15 g15
      have hG3 : GQ w3 lo p r vi vb [⟨2, id, 0⟩] (.slice aA (ko + 1) kA) := by have h := HA.out.1; exact h
      have M3 := Lib.hid HA.out.2
      have hend := gend_any hG3 HL20.out (small_ids HOK.out.w) id
      have HEND := Lib.hid hend
      clear hG3 hend
      go_upto_region 15 with (go_at_call 35; (refine HEND.out.mono ?_); rintro e w4 ⟨rfl, vi4, vb4, h4, m4⟩; have H4 := Lib.hid h4; have M4 := Lib.hid m4; clear h4 m4)
      have h4 : Gw w4 lo p (endR r id) (idsOf (endR r id).runs) vi4 (sincesOf (endR r id).runs) vb4 [⟨2, id, 0⟩] (.slice aA (ko + 1) kA) := H4.out
      have c9 : w4.cell? ⟨p, 9, none⟩ = some (.int .i64 r.again) := h4.blk.cell 9 _ rfl
      have e9 := h4.blk.free 9
      have hp4 := h4.blk.lt
      have h5 := h4.setF (i := 9) (u := .int .i64 ((r.again : Int) + 1)) (r' := { endR r id with again := r.again + 1 }) (by rfl)
      obtain ⟨ag, hag⟩ : ∃ ag, ag = r.again := ⟨_, rfl⟩
      rw [← hag] at c9 ha9 h5
      have HAGG := Lib.hid hag
      have H5 := Lib.hid h5
      clear hag h4 h5
      go_upto_region 16 with fail
      generalize w4.setCell ⟨p, 9, none⟩ (.int .i64 ((ag : Int) + 1)) = w5 at H5 ⊢
      have hz : (endR r id).runs.length = 0 := by show (keep r.runs id).length = 0; rw [HKE.out]; rfl
      have htr := gmake_any H5.out.1 (by show r.made ≤ 20; have := HM.out; omega) (by rw [idsOf_len, hz]; omega) (by rw [sincesOf_len, hz]; omega) (by simp) n hn 1
      have HT := Lib.hid htr
      clear htr c9 e9 hz
      go_upto_region 17 with (go_at_call 31; (refine HT.out.mono ?_); rintro e w6 ⟨rfl, vi6, vb6, vo6, h6, m6⟩; have H6 := Lib.hid h6; have M6 := Lib.hid m6; clear h6 m6)
      have hg : GQ w6 lo p (againR (endR r id) n) vi6 vb6 [⟨2, id, 0⟩, ⟨1, r.made, 1⟩] vo6 := by
        unfold GQ
        have hr : (againR (endR r id) n).runs = (endR r id).runs ++ [⟨r.made, n⟩] := rfl
        rw [hr, (idsOf_snoc _ _ _).1, (idsOf_snoc _ _ _).2]
        exact H6.out.re (r' := againR (endR r id) n) (by rw [HAGG.out]; rfl)
      have HG6 := Lib.hid hg
      clear hg
      go_wp2_with (go_at_call 32; (with_reducible refine (gqtold_any HG6.out).mono ?_); rintro e w7 ⟨rfl, h7, ho7, hv7⟩; have H7 := Lib.hid h7; have HO7 := Lib.hid ho7; have HV7 := Lib.hid hv7; clear h7 ho7 hv7)
      go_ret2
      refine ⟨_, rfl, gtold_of ?_ HG6.out H7.out HO7.out HV7.out⟩
      rw [HVO.out]
      exact (((Mv.of_only HD.out).trans (M3.out.p_gg vi vb)).trans (M4.out.p_g vi vb)).trans ((H5.out.2.ofp (.inl rfl)).trans M6.out)
end
end Go.Proofs.Ytlcblfkmadjppaa
