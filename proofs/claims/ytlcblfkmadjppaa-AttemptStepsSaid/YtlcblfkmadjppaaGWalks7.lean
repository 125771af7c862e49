/- The reference: Head whole. -/
import Derived.Test.YtlcblfkmadjppaaGWalks6
namespace Go.Proofs.Ytlcblfkmadjppaa
open Go.RowKit
set_option linter.unusedVariables false
set_option linter.unusedSimpArgs false

section
variable {w : World} {lo p : Nat} {r : Rq} {vi vb vo : Value} {o : List Ac}
theorem Mv.p_done {v2 : Value} {w w' : World} (h : Mv (pfoot p vo) (pfoot p v2) w w') (vi vb : Value) : Mv (gfoot p vi vb vo) (gfoot p (.slice none 0 0) (.slice none 0 0) v2) w w' := by
  have h2 := h.p_gg vi vb
  refine ⟨h2.only, fun k hk => h2.new_ k ?_⟩
  rcases hk with hk | hk | hk | hk
  · exact .inl hk
  · cases hk
  · cases hk
  · exact .inr (.inr (.inr hk))
theorem gq_done {w' : World} {r' : Rq} {v2 : Value} {o' : List Ac} (h : Gw w' lo p { r with over := true } [] (.slice none 0 0) [] (.slice none 0 0) o' v2) : GQ w' lo p { r with over := true, runs := [] } (.slice none 0 0) (.slice none 0 0) o' v2 := h.re rfl

set_option maxRecDepth 100000 in
set_option maxHeartbeats 6400000 in
theorem ghead_win (h : GQ w lo p r vi vb [] vo) (hok : Okq r) (n : Nat) (hn : n ≤ 4611686018427387904) (id status : Int) (allow : Bool) (hh : hasR r id = true) (hs : 200 ≤ status ∧ status ≤ 599)
    (hb : (badS status && (mayR r 5 allow || decide (1 < r.runs.length))) = false) :
    Calls Try.prog 17 #[.pointer (some ⟨p, 0, none⟩), .int .i64 n, .int .i64 id, .int .i64 status, .bool allow] w fun e w' =>
      ∃ v, e = .returned (.tuple #[v, .int .i64 0]) ∧ GTold (gfoot p vi vb vo) w w' lo p { r with over := true, runs := [] } v (cancels (keep r.runs id) ++ [⟨3, id, 0⟩]) := by
  obtain ⟨i66, hi66, hz0, hz1, hz2⟩ := info_parts Try.info66
  obtain ⟨kk, hkk⟩ : ∃ kk, kk = r.runs.length := ⟨_, rfl⟩
  obtain ⟨ai, ci, rfl, hci1, hci2, _, _⟩ := ownsRow_slice (show w.ownsRow lo 3 1 vi (idsOf r.runs).length (ints (idsOf r.runs)) from Gw.ids h)
  have hci3 : ci ≤ 9223372036854775807 := by unfold maxLen at hci2; omega
  rw [idsOf_len, ← hkk] at h hci1
  rw [idsOf_len, ← hkk]
  clear hci2
  have hcase : (status ≠ 502 ∧ status ≠ 503 ∧ status ≠ 504) ∨ ((status = 502 ∨ status = 503 ∨ status = 504) ∧ Hid (mayR r 5 allow = false) ∧ ¬ 1 < r.runs.length) := by
    by_cases h1 : status = 502 ∨ status = 503 ∨ status = 504
    · right
      have hbs : badS status = true := by unfold badS; rw [decide_eq_true (by omega), decide_eq_true (by omega)]; rfl
      rw [hbs, Bool.true_and, Bool.or_eq_false_iff] at hb
      exact ⟨h1, hb.1, of_decide_eq_false hb.2⟩
    · left; omega
  have hn0 : (0 : Int) ≤ n := by omega
  have hn1 : (n : Int) ≤ 4611686018427387904 := by omega
  have hl9 := hok.len9
  obtain ⟨hs1, hs2⟩ := hs
  have H := Lib.hid h
  have HOK := Lib.hid hok
  have HH := Lib.hid hh
  have HL := Lib.hid (show r.runs.length ≤ 64 by omega)
  obtain ⟨hplq, xo, xc, c11, hxc1, hxc2⟩ := gq_ids h hkk.symm
  rw [← hkk] at hl9 hcase
  have HKK := Lib.hid hkk
  have g1 : decide (status < 200) = false := decide_eq_false (by omega)
  have g2 : decide (599 < status) = false := decide_eq_false (by omega)
  have hmy := gqmay_any h hok.w 5 allow
  have HMA := Lib.hid hmy
  clear h hok hh hb hkk hmy
  have hmain : ∀ wX : World, Drawn w wX → True := fun _ _ => trivial
  rcases hcase with ⟨hc1, hc2, hc3⟩ | ⟨rfl | rfl | rfl, hmay, hlen⟩
  all_goals
    try have e2 : (status == 502) = false := beq_eq_false_iff_ne.2 hc1
    try have e3 : (status == 503) = false := beq_eq_false_iff_ne.2 hc2
    try have e4 : (status == 504) = false := beq_eq_false_iff_ne.2 hc3
    try have e5 : decide (1 < (kk : Int)) = false := decide_eq_false (by omega)
    try have e6 : decide (1 < kk) = false := decide_eq_false hlen
    try clear hc1 hc2 hc3
    go_enter Try.func17, Try.ntmps17
    go_upto_region 18 with (first
      | (go_at_call 25; (with_reducible refine (rmoment_ok n _ hn0 hn1).mono ?_); rintro e w' ⟨rfl, rfl⟩)
      | (go_at_call 33; (with_reducible refine (gruns_any H.out HL.out id).mono ?_); rintro e w' ⟨rfl, rfl⟩; rw [HH.out])
      | (go_at_call 36; (refine HMA.out.mono ?_); rintro e w2 ⟨rfl, hD⟩; rw [hmay.out]; have HD := Lib.hid (hD.only (fun _ => False)); clear hD))
    first
      | (have HRX := Lib.hid (show Gw w2 lo p r (idsOf r.runs) (.slice ai kk ci) (sincesOf r.runs) vb [] vo from Gw.only H.out HD.out (fun _ _ h => h)); have HMX := Lib.hid (Mv.of_only (F := gfoot p (.slice ai kk ci) vb vo) HD.out))
      | (have HRX := Lib.hid (show Gw w lo p r (idsOf r.runs) (.slice ai kk ci) (sincesOf r.runs) vb [] vo from H.out); have HMX := Lib.hid (Mv.refl (gfoot p (.slice ai kk ci) vb vo) w))
    clear c11
    have c11 := HRX.out.blk.cell 11 _ rfl
    have hpl3 := HRX.out.blk.lt
    have HR := HRX
    go_upto_region 19 with fail
    clear c11
    go_loopw [14, 101] (fun _ i wr => ∃ (j : Nat) (vo' : Value), j ≤ kk ∧ i = .int .i64 j ∧ Gw wr lo p r (idsOf r.runs) (.slice ai kk ci) (sincesOf r.runs) vb (cancels (keep (r.runs.take j) id)) vo' ∧ Mv (gfoot p (.slice ai kk ci) vb vo) (gfoot p (.slice ai kk ci) vb vo') w wr) (fun _ i _ => kk - (intOf i).toNat)
    case atStart => exact ⟨0, vo, Nat.zero_le _, rfl, HR.out, HMX.out⟩
    case round =>
      obtain ⟨j, vo', hj, rfl, hRj, hMj⟩ := hrel
      have HRJ := Lib.hid hRj
      have HMJ := Lib.hid hMj
      clear hRj hMj
      have hol : (cancels (keep (r.runs.take j) id)).length ≤ 20 := by rw [cancels_len]; have := keep_len (r.runs.take j) id; rw [List.length_take] at this; omega
      by_cases hlt : j < kk
      · have hjr : j < r.runs.length := by rw [← HKK.out]; exact hlt
        obtain ⟨g, rfl, hgl, e0⟩ := ints_at HRJ.out.ids (ao := ai) (n := kk) (cap := ci) rfl (i := j) (by rw [idsOf_len]; exact hjr)
        rw [idsOf_get hjr] at e0
        obtain ⟨x, hx⟩ : ∃ x, x = runAt r.runs j := ⟨_, rfl⟩
        rw [← hx] at e0
        have hct := cancels_take r.runs id j hjr
        rw [← hx] at hct
        have hxi : x.id < 1000000 := by
          have := HOK.out.lt x (by rw [hx, runAt_eq hjr]; exact List.getElem_mem hjr)
          have := HOK.out.made9
          omega
        clear hx hjr
        by_cases he : (x.id : Int) = id
        · have fe : ((x.id : Int) == id) = true := beq_iff_eq.2 he
          have fe2 : ((x.id : Int) != id) = false := by simp [he]
          rw [if_pos he, List.append_nil] at hct
          have HCT := Lib.hid hct
          clear hct he
          go_wp2_with fail
          go_roundw
          case rel => exact ⟨j + 1, vo', by omega, by go_num, by rw [HCT.out]; exact HRJ.out, HMJ.out⟩
          case measure => simp [intOf]; omega
        · have fe : ((x.id : Int) == id) = false := beq_eq_false_iff_ne.2 he
          have fe2 : ((x.id : Int) != id) = true := by simp [he]
          rw [if_neg he] at hct
          have HCT := Lib.hid hct
          clear hct he
          go_upto_region 22 with fail
          have c15 := HRJ.out.blk.cell 15 _ rfl
          have f15 := HRJ.out.blk.free 15
          have hplA := HRJ.out.blk.lt
          have hloA : lo ≤ wr.heap.size := by have := HRJ.out.low; omega
          obtain ⟨ko, hko⟩ : ∃ k, k = (cancels (keep (r.runs.take j) id)).length := ⟨_, rfl⟩
          have hOA := HRJ.out.out
          have hkl : ko ≤ 20 := by rw [hko]; exact hol
          rw [← hko] at hOA
          obtain ⟨ao, co, hvo, hco1, hco2, _, _⟩ := ownsRow_slice hOA
          have hG0 := HRJ.out
          rw [hvo] at hOA c15 hG0
          have HOA := Lib.hid hOA
          have HG0 := Lib.hid hG0
          have HVO := Lib.hid hvo
          have HKO := Lib.hid hko
          clear hOA hG0 hvo hko
          go_upto_region 23 with (at_builtin; refine wpList_append_row rfl (.tmp 112) (.tmp 115) 42 rfl lo 66 i66 _ 3 24 Try.underlying42 hi66 hz0 hz1 hz2 rfl (by decide) (.slice ao ko co) ko (acCells (cancels (keep (r.runs.take j) id))) rfl (HOA.out.alloc _) (some ⟨wr.heap.size, 0, none⟩) 1 1 (acCells [⟨2, x.id, 0⟩]) rfl rfl (fun _ => ⟨_, rfl, cells_new _ [.int .i64 2, .int .i64 x.id, .int .i64 0] _⟩) (fun e => by cases e) (ac_one _) (by unfold maxLen; omega) (by omega) (by simp only [World.size_alloc]; omega) ?_)
          intro vA wA hownA honA hatA _
          obtain ⟨aA, kA, rfl, _, _, _, _⟩ := ownsRow_slice hownA
          have hbA := (HG0.out.blk.alloc (.cells #[.int .i64 2, .int .i64 x.id, .int .i64 0] 66)).only honA (fun e => HG0.out.no e)
          have e15 := hbA.cell 15 _ rfl
          have g15 := hbA.free 15
          have hA := HG0.out.appOut (acts := [⟨2, x.id, 0⟩]) ((Only.refl _ wr).alloc (.cells #[.int .i64 2, .int .i64 x.id, .int .i64 0] 66)) (by rw [← HKO.out]; exact hownA) honA (by first | exact hatA | (simp only [World.size_alloc] at hatA; exact hatA)) (Nat.le_succ _)
          have HA := Lib.hid hA
          clear hA hbA hownA honA hatA c15 f15
          go_upto_region 23 with fail
          generalize wA.setCell ⟨p, 15, none⟩ (.slice aA (ko + 1) kA) = w3 at HA ⊢
          clear e15 g15
          go_wp2_with fail
          go_roundw
          case rel => exact ⟨j + 1, _, by omega, by go_num, by rw [HCT.out]; exact HA.out.1, by have m := HMJ.out; rw [HVO.out] at m; exact m.trans (HA.out.2.p_gg _ _)⟩
          case measure => simp [intOf]; omega
      · have hke : cancels (keep (r.runs.take j) id) = cancels (keep r.runs id) := by rw [List.take_of_length_le (by rw [← HKK.out]; omega)]
        have HKE := Lib.hid hke
        clear hke
        go_upto_region 25 with (go_at_call 37; (with_reducible refine (gdone_any HRJ.out (Nat.le_trans hol (by decide)) 3 id 0).mono ?_); rintro e w5 ⟨rfl, hP⟩; have HP := Lib.hid hP; clear hP)
        obtain ⟨vo5, h5, m5⟩ := HP.out
        have hg5 := gq_done (r' := r) h5
        have HG5 := Lib.hid hg5
        have M5 := Lib.hid m5
        clear h5 m5 hg5
        go_wp2_with (go_at_call 32; (with_reducible refine (gqtold_any HG5.out).mono ?_); rintro e w7 ⟨rfl, h7, ho7, hv7⟩; have H7 := Lib.hid h7; have HO7 := Lib.hid ho7; have HV7 := Lib.hid hv7; clear h7 ho7 hv7)
        go_ret2
        refine ⟨_, rfl, ?_⟩
        rw [← HKE.out]
        exact gtold_of (HMJ.out.trans (M5.out.p_done _ _)) HG5.out H7.out HO7.out HV7.out

theorem ghead_any (h : GQ w lo p r vi vb [] vo) (hok : Okq r) (now id status : Int) (allow : Bool) :
    Calls Try.prog 17 #[.pointer (some ⟨p, 0, none⟩), .int .i64 now, .int .i64 id, .int .i64 status, .bool allow] w fun e w' =>
      ∃ v, e = .returned (.tuple #[v, .int .i64 (headI r now id status allow).2.2]) ∧ GTold (gfoot p vi vb vo) w w' lo p (headI r now id status allow).1 v (headI r now id status allow).2.1 := by
  unfold headI
  have hl64 : r.runs.length ≤ 64 := by have := hok.len9; omega
  by_cases hm : isMoment now
  · rw [if_neg (fun h => h hm)]
    have hm0 := hm
    obtain ⟨h0, h1⟩ := hm0
    obtain ⟨n, rfl⟩ : ∃ n : Nat, now = n := ⟨now.toNat, by omega⟩
    have hn : n ≤ 4611686018427387904 := by omega
    have hn0 : (0 : Int) ≤ n := by omega
    have hn1 : (n : Int) ≤ 4611686018427387904 := by omega
    rw [Int.toNat_natCast]
    clear h0 h1 hm
    cases hh : hasR r id with
    | false =>
      rw [if_pos rfl]
      have H := Lib.hid h
      have HH := Lib.hid hh
      have HL := Lib.hid hl64
      clear h hok hh hl64
      go_enter Try.func17, Try.ntmps17
      go_wp2_with (first
        | (go_at_call 25; (with_reducible refine (rmoment_ok n _ hn0 hn1).mono ?_); rintro e w' ⟨rfl, rfl⟩)
        | (go_at_call 33; (with_reducible refine (gruns_any H.out HL.out id).mono ?_); rintro e w' ⟨rfl, rfl⟩; rw [HH.out]))
      go_ret2
      exact ⟨_, rfl, GTold.none_ H.out (Only.refl _ _)⟩
    | true =>
      rw [if_neg (by decide)]
      by_cases hs : status < 200 ∨ 599 < status
      · rw [if_pos hs]
        have H := Lib.hid h
        have HH := Lib.hid hh
        have HL := Lib.hid hl64
        clear h hok hh hl64
        rcases (show status < 200 ∨ (200 ≤ status ∧ 599 < status) by omega) with h1 | ⟨h1, h2⟩
        all_goals
          clear hs
          go_enter Try.func17, Try.ntmps17
          go_wp2_with (first
            | (go_at_call 25; (with_reducible refine (rmoment_ok n _ hn0 hn1).mono ?_); rintro e w' ⟨rfl, rfl⟩)
            | (go_at_call 33; (with_reducible refine (gruns_any H.out HL.out id).mono ?_); rintro e w' ⟨rfl, rfl⟩; rw [HH.out]))
          go_ret2
          exact ⟨_, rfl, GTold.none_ H.out (Only.refl _ _)⟩
      · rw [if_neg hs]
        cases hb : (badS status && (mayR r 5 allow || decide (1 < r.runs.length))) with
        | false =>
          have hw := ghead_win h hok n hn id status allow hh (by omega) hb
          have e : headR r n id status allow = ({ r with over := true, runs := [] }, cancels (keep r.runs id) ++ [⟨3, id, 0⟩]) := by
            unfold headR
            rw [if_neg (by rw [hb]; decide)]
          rw [e]
          exact hw
        | true =>
          rw [Bool.and_eq_true] at hb
          exact ghead_bad h hok n hn id status allow hh hb.1 hb.2
  · rw [if_pos hm]
    have hb : now < 0 ∨ 4611686018427387904 < now := by unfold isMoment at hm; omega
    have HB := Lib.hid hb
    have H := Lib.hid h
    clear hm hb h hok hl64
    go_enter Try.func17, Try.ntmps17
    go_wp2_with (go_at_call 25; (with_reducible refine (rmoment_bad now _ HB.out).mono ?_); rintro e w' ⟨rfl, rfl⟩)
    go_ret2
    exact ⟨_, rfl, GTold.none_ H.out (Only.refl _ _)⟩
end
end Go.Proofs.Ytlcblfkmadjppaa
