/- Head: what is bad; Head whole. -/
import Derived.Test.YtlcblfkmadjppaaWalks10
namespace Go.Proofs.Ytlcblfkmadjppaa
open Go.RowKit
set_option linter.unusedVariables false
set_option linter.unusedSimpArgs false

section
variable {F : Nat → Prop} {w : World} {lo p : Nat} {r : Rq} {o : List Ac}

set_option maxRecDepth 100000 in
set_option maxHeartbeats 6400000 in
theorem head_bad (h : RQ F w lo p r []) (hok : Okq r) (n : Nat) (hn : n ≤ 4611686018427387904) (id status : Int) (allow : Bool) (hh : hasR r id = true)
    (hb1 : badS status = true) (hb2 : (mayR r 5 allow || decide (1 < r.runs.length)) = true) :
    Calls Try.prog 24 #[.pointer (some ⟨p, 0, none⟩), .int .i64 n, .int .i64 id, .int .i64 status, .bool allow] w fun e w' =>
      ∃ v, e = .returned (.tuple #[v, .int .i64 0]) ∧ Told F w w' lo p (headR r n id status allow).1 v (headR r n id status allow).2 := by
  have hst : 502 ≤ status ∧ status ≤ 504 := by
    unfold badS at hb1
    rw [Bool.and_eq_true] at hb1
    exact ⟨of_decide_eq_true hb1.1, of_decide_eq_true hb1.2⟩
  obtain ⟨hs1, hs2⟩ := hst
  have hl9 := hok.len9
  have hl64 : r.runs.length ≤ 64 := by omega
  have hm9 := hok.made9
  have ha9 : r.again ≤ 5 := by have := hok.a1; have := hok.p1; omega
  have hfin : headR r n id status allow = if keep r.runs id ≠ [] then (endR r id, [⟨2, id, 0⟩]) else (againR (endR r id) n, [⟨2, id, 0⟩, ⟨1, r.made, 1⟩]) := by
    unfold headR
    rw [if_pos (by rw [hb1, hb2]; rfl)]
  rw [hfin]
  obtain ⟨rr, hrr⟩ : ∃ rr, rr = (if keep r.runs id ≠ [] then (endR r id, [(⟨2, id, 0⟩ : Ac)]) else (againR (endR r id) n, [⟨2, id, 0⟩, ⟨1, r.made, 1⟩])) := ⟨_, rfl⟩
  rw [← hrr]
  have HRR := Lib.hid hrr
  clear hrr
  have H := Lib.hid h
  have HOK := Lib.hid hok
  have HH := Lib.hid hh
  have HL := Lib.hid hl64
  have HM := Lib.hid hm9
  have hm : ∃ m, m = mayR r 5 allow := ⟨_, rfl⟩
  obtain ⟨m, hm⟩ := hm
  rw [← hm] at hb2
  have HMY := Lib.hid hm
  obtain ⟨kk, hkk⟩ : ∃ kk, kk = r.runs.length := ⟨_, rfl⟩
  rw [← hkk] at hb2 hl9
  have HKK := Lib.hid hkk
  have hcase : m = true ∨ (m = false ∧ 1 < kk) := by
    cases m with
    | true => exact .inl rfl
    | false => right; rw [Bool.false_or] at hb2; exact ⟨rfl, of_decide_eq_true hb2⟩
  obtain ⟨z, hz⟩ : ∃ z, z = (keep r.runs id).length := ⟨_, rfl⟩
  have hzl : z ≤ 9 := by have := keep_len r.runs id; omega
  have HZ := Lib.hid hz
  clear h hok hh hb1 hb2 hfin hm hkk hz hl64 hm9
  rcases hcase with rfl | ⟨rfl, hk1⟩
  all_goals
    go_enter Try.func24, Try.ntmps24
    go_upto_region 9 with (first
      | (go_at_call 27; (with_reducible refine (moment_ok n _ hn).mono ?_); rintro e w' ⟨rfl, rfl⟩)
      | (go_at_call 47; (with_reducible refine (find_any H.out id).mono ?_); rintro e w1 ⟨k, rfl, hk, hO⟩; have HO := Lib.hid hO; clear hO; have hk2 := findP_yes hk HH.out; clear hk; have f3 : decide (k < 0) = false := decide_eq_false (by omega); have HAG := Lib.hid (again_any (H.out.only HO.out (fun _ _ h => h)) HOK.out.w 5 allow))
      | (go_at_call 48; (refine HAG.out.mono ?_); rintro e w2 ⟨rfl, hD⟩; rw [← HMY.out]; have HD := Lib.hid (HO.out.trans (hD.only (fun _ => False)) (fun _ _ h => h)); clear hD; obtain ⟨hpl2, yo, yc, c12, hyc1, hyc2⟩ := rq_runs (H.out.only HD.out (fun _ _ h => h)) HKK.out.symm))
    have H2 := Lib.hid (H.out.only HD.out (fun _ _ h => h))
    clear c12
    go_upto_region 11 with (first
      | (go_at_call 44; (with_reducible refine (say_one H2.out 2 id 0 (Nat.zero_le _)).mono ?_); rintro e w3 ⟨rfl, hP⟩; obtain ⟨F3, h3, m3⟩ := hP; have H3 := Lib.hid h3; have M3 := Lib.hid m3; clear h3 m3)
      | (go_at_call 49; (with_reducible refine (end_any H3.out HL.out id).mono ?_); rintro e w4 ⟨rfl, hP⟩; obtain ⟨F4, h4, m4⟩ := hP; have H4 := Lib.hid h4; have M4 := Lib.hid m4; clear h4 m4))
    obtain ⟨hpl4, zo, zc, c14, hzc1, hzc2⟩ := rq_runs H4.out (n := z) HZ.out.symm
    have MM := Lib.hid ((Mv.of_only (F := F) HD.out).trans (M3.out.trans M4.out))
    by_cases hz0 : z = 0
    · have hke : keep r.runs id = [] := List.eq_nil_of_length_eq_zero (by rw [← HZ.out]; exact hz0)
      have HKE := Lib.hid hke
      subst hz0
      clear hke
      obtain ⟨c9, e9⟩ := rq_cell H4.out 9 (.int .i64 r.again) (fun _ _ => rfl)
      have h5 := rq_set H4.out (r' := { endR r id with again := r.again + 1 }) 9 (.int .i64 ((r.again : Int) + 1)) (fun _ _ => rfl) rfl
      obtain ⟨ag, hag⟩ : ∃ ag, ag = r.again := ⟨_, rfl⟩
      rw [← hag] at c9 ha9 h5
      have HAGG := Lib.hid hag
      have H5 := Lib.hid h5
      clear hag h5
      go_upto_region 13 with fail
      generalize w4.setCell ⟨p, 9, none⟩ (.int .i64 ((ag : Int) + 1)) = w5 at H5 ⊢
      obtain ⟨F5, h5, m5⟩ := H5.out
      have htr := try_any h5 (by show r.made ≤ 20; have := HM.out; omega) (by show (keep r.runs id).length ≤ 20; rw [← HZ.out]; omega) (by simp) n hn 1
      have HT := Lib.hid htr
      have M5 := Lib.hid m5
      clear h5 m5 htr c9 e9 c14
      go_wp2_with (first
        | (go_at_call 28; (refine HT.out.mono ?_); rintro e w6 ⟨rfl, hP⟩; obtain ⟨F6, h6, m6⟩ := hP; have H6 := Lib.hid h6; have M6 := Lib.hid m6; clear h6 m6)
        | (go_at_call 29; (with_reducible refine (told_any H6.out).mono ?_); rintro e w7 ⟨v, rfl, hTo⟩; have HTO := Lib.hid hTo; clear hTo))
      go_ret2
      have hfin := HTO.out.trans (MM.out.trans (M5.out.trans M6.out))
      rw [HAGG.out] at hfin
      rw [HRR.out, if_neg (fun h => h HKE.out)]
      exact ⟨v, rfl, hfin⟩
    · have hke : keep r.runs id ≠ [] := fun e => hz0 (by rw [HZ.out, e]; rfl)
      have HKE := Lib.hid hke
      have f5 : ((z : Int) == 0) = false := beq_eq_false_iff_ne.2 (by omega)
      have f5n : (z == 0) = false := beq_eq_false_iff_ne.2 hz0
      clear hke
      go_wp2_with (first
        | (go_at_call 29; (with_reducible refine (told_any H4.out).mono ?_); rintro e w7 ⟨v, rfl, hTo⟩; have HTO := Lib.hid hTo; clear hTo))
      go_ret2
      rw [HRR.out, if_pos HKE.out]
      exact ⟨v, rfl, HTO.out.trans MM.out⟩

theorem head_any (h : RQ F w lo p r []) (hok : Okq r) (now id status : Int) (allow : Bool) :
    Calls Try.prog 24 #[.pointer (some ⟨p, 0, none⟩), .int .i64 now, .int .i64 id, .int .i64 status, .bool allow] w fun e w' =>
      ∃ v, e = .returned (.tuple #[v, .int .i64 (headI r now id status allow).2.2]) ∧ Told F w w' lo p (headI r now id status allow).1 v (headI r now id status allow).2.1 := by
  unfold headI
  by_cases hm : isMoment now
  · rw [if_neg (fun h => h hm)]
    have hm0 := hm
    obtain ⟨h0, h1⟩ := hm0
    obtain ⟨n, rfl⟩ : ∃ n : Nat, now = n := ⟨now.toNat, by omega⟩
    have hn : n ≤ 4611686018427387904 := by omega
    rw [Int.toNat_natCast]
    clear h0 h1 hm
    cases hh : hasR r id with
    | false =>
      rw [if_pos rfl]
      have H := Lib.hid h
      have HH := Lib.hid hh
      clear h hok hh
      go_enter Try.func24, Try.ntmps24
      go_wp2_with (first
        | (go_at_call 27; (with_reducible refine (moment_ok n _ hn).mono ?_); rintro e w' ⟨rfl, rfl⟩)
        | (go_at_call 47; (with_reducible refine (find_any H.out id).mono ?_); rintro e w1 ⟨k, rfl, hk, hO⟩; have HO := Lib.hid hO; clear hO; have hk1 := findP_no hk HH.out; subst hk1; clear hk))
      go_ret2
      exact ⟨_, rfl, Told.none_ H.out HO.out⟩
    | true =>
      rw [if_neg (by decide)]
      by_cases hs : status < 200 ∨ 599 < status
      · rw [if_pos hs]
        have H := Lib.hid h
        have HH := Lib.hid hh
        clear h hok hh
        rcases (show status < 200 ∨ (200 ≤ status ∧ 599 < status) by omega) with h1 | ⟨h1, h2⟩
        all_goals
          clear hs
          go_enter Try.func24, Try.ntmps24
          go_wp2_with (first
            | (go_at_call 27; (with_reducible refine (moment_ok n _ hn).mono ?_); rintro e w' ⟨rfl, rfl⟩)
            | (go_at_call 47; (with_reducible refine (find_any H.out id).mono ?_); rintro e w1 ⟨k, rfl, hk, hO⟩; have HO := Lib.hid hO; clear hO; have hk1 := findP_yes hk HH.out; clear hk; have f3 : decide (k < 0) = false := decide_eq_false (by omega)))
          go_ret2
          exact ⟨_, rfl, Told.none_ H.out HO.out⟩
      · rw [if_neg hs]
        cases hb : (badS status && (mayR r 5 allow || decide (1 < r.runs.length))) with
        | false =>
          have hw := head_win h hok n hn id status allow hh (by omega) hb
          have e : headR r n id status allow = ({ r with over := true, runs := [] }, cancels (keep r.runs id) ++ [⟨3, id, 0⟩]) := by
            unfold headR
            rw [if_neg (by rw [hb]; decide)]
          rw [e]
          exact hw
        | true =>
          rw [Bool.and_eq_true] at hb
          exact head_bad h hok n hn id status allow hh hb.1 hb.2
  · rw [if_pos hm]
    have hb : now < 0 ∨ 4611686018427387904 < now := by unfold isMoment at hm; omega
    have HB := Lib.hid hb
    have H := Lib.hid h
    clear hm hb h hok
    go_enter Try.func24, Try.ntmps24
    go_wp2_with (go_at_call 27; (with_reducible refine (moment_bad now _ HB.out).mono ?_); rintro e w' ⟨rfl, rfl⟩)
    go_ret2
    exact ⟨_, rfl, Told.none_ H.out (Only.refl _ _)⟩
end
end Go.Proofs.Ytlcblfkmadjppaa
