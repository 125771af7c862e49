/- The reference: Up, Gone, Drop. -/
import Derived.Test.YtmpcffkandmacaaGWalks5
namespace Go.Proofs.Ytmpcffkandmacaa
open Go.RowKit
set_option linter.unusedVariables false
set_option linter.unusedSimpArgs false

section
variable {F : Nat → Prop} {w0 w : World} {lo p : Nat} {P : Pp} {R : List Nat} {vl vr vw : Value} {Cs : List Cn}
set_option maxRecDepth 100000 in
theorem gup_none (h : GP F w0 w lo p P R) (n : Int) (hi : ∀ i, atI P n = some i → (cnAt P.l i).st ≠ 0) :
    Calls Try.prog 39 #[ptr p, .int .i64 n] w fun e w' => e = .returned (.tuple #[.int .i64 0, .int .i64 6]) ∧ GP F w0 w' lo p P R := by
  have h0 := h
  obtain ⟨vl, vr, vw, h, hm⟩ := h
  have hf := find_any h n
  have H0 := Lib.hid h0
  cases ha : atI P n with
  | none =>
    rw [ha] at hf
    simp only [idxV] at hf
    have HF := Lib.hid hf
    clear h0 h hm hf hi ha
    go_enter Try.func39, Try.ntmps39
    go_wp2_with (go_at_call 58; (refine HF.out.mono ?_); rintro e w2 ⟨rfl, hd⟩; have HD := Lib.hid hd; clear hd)
    go_ret2
    exact ⟨rfl, H0.out.only0 HD.out⟩
  | some i =>
    have hil := atI_lt ha
    rw [ha] at hf
    simp only [idxV] at hf
    have hst := hi i ha
    have hcell : ∀ w', Only (fun _ => False) w w' → ∃ g cap, vl = .slice (some ⟨g, 0, none⟩) P.l.length cap ∧ P.l.length ≤ cap ∧ cap ≤ 9223372036854775807 ∧ g < w'.heap.size ∧ w'.cell? ⟨g, i * 5 + 1, none⟩ = some (.int .i64 (((cnAt P.l i).st : Int) + 1)) ∧ w'.cell? ⟨p, 5, none⟩ = some vl ∧ p < w'.heap.size := fun w' ho => by
      obtain ⟨g, cap, e, a1, a2, a3, _, b1, _⟩ := (h.only0 ho).at_ hil
      exact ⟨g, cap, e, a1, a2, a3, b1, (h.only0 ho).blk.cell 5 _ rfl, (h.only0 ho).blk.lt⟩
    have f1 : ((((cnAt P.l i).st : Int) + 1) == 1) = false := beq_eq_false_iff_ne.2 (by omega)
    have f2 : ((((cnAt P.l i).st : Int) + 1) != 1) = true := by rw [bne, f1]; rfl
    generalize ((cnAt P.l i).st : Int) + 1 = s1 at hcell f1 f2
    obtain ⟨ln, hln⟩ : ∃ ln, ln = P.l.length := ⟨_, rfl⟩
    rw [← hln] at hcell hil
    have hi64 : i ≤ 9223372036854775807 := by
      obtain ⟨_, _, _, a1, a2, _⟩ := hcell w (Only.refl _ _)
      omega
    have HC := Lib.hid hcell
    have HF := Lib.hid hf
    clear h0 h hm hf hi ha hcell hst hln
    go_enter Try.func39, Try.ntmps39
    go_wp2_with (go_at_call 58; (refine HF.out.mono ?_); rintro e w2 ⟨rfl, hd⟩; have HD := Lib.hid hd; obtain ⟨g, cap, rfl, hc1, hc2, hg, c1, d5, hpl⟩ := HC.out w2 hd; clear hd)
    go_ret2
    exact ⟨rfl, H0.out.only0 HD.out⟩
set_option maxRecDepth 100000 in
theorem gup_some (h : GP F w0 w lo p P R) (hr : RelC P R Cs) (n : Int) {i : Nat} (ha : atI P n = some i) (hst : (cnAt P.l i).st = 0) :
    Calls Try.prog 39 #[ptr p, .int .i64 n] w fun e w' => e = .returned (.tuple #[.int .i64 (cnAt P.l i).who, .int .i64 0]) ∧ GQ F w0 w' lo p { P with l := P.l.set i { cnAt P.l i with st := 1 } } := by
  obtain ⟨vl, vr, vw, h, hm⟩ := h
  have hf := find_any h n
  have hil := atI_lt ha
  rw [ha] at hf
  simp only [idxV] at hf
  have hrel := hr.busy hil (by rw [hst]; decide) (c := { cnAt P.l i with st := 1 }) rfl (by decide : (1 : Nat) ≠ 2) rfl
  obtain ⟨P1, hP1⟩ : ∃ P1, P1 = { P with l := P.l.set i { cnAt P.l i with st := 1 } } := ⟨_, rfl⟩
  rw [← hP1] at hrel ⊢
  have HREL := Lib.hid hrel
  obtain ⟨c, hc⟩ : ∃ c, c = cnAt P.l i := ⟨_, rfl⟩
  have HCI := Lib.hid hc
  rw [← hc] at hst hP1 ⊢
  obtain ⟨num, st, who, sn, bo, nth⟩ := c
  simp only at hst hP1 ⊢
  subst hst
  have HF := Lib.hid hf
  have H := Lib.hid h
  have HM := Lib.hid hm
  have HIL := Lib.hid hil
  have HP1 := Lib.hid hP1
  obtain ⟨ln, hln⟩ : ∃ ln, ln = P.l.length := ⟨_, rfl⟩
  have hiln : i < ln := by omega
  have HLN := Lib.hid hln
  clear h hm hf ha hil hrel hc hP1 hln hr
  go_enter Try.func39, Try.ntmps39
  go_upto_region 2 with (go_at_call 58; (refine HF.out.mono ?_); rintro e w2 ⟨rfl, hd⟩; have HD := Lib.hid hd; clear hd)
  have h2 := H.out.only0 HD.out
  obtain ⟨g, cap, hv, hc1, hc2, hg, _, c1, c2, _, _, hfr⟩ := h2.at_ HIL.out
  rw [← HCI.out] at c1 c2
  simp only at c1 c2
  rw [show (((0 : Nat) : Int) + 1) = 1 from rfl] at c1
  have d5 := h2.blk.cell 5 _ rfl
  have hpl := h2.blk.lt
  have fr1 := hfr (i * 5 + 1)
  obtain ⟨g3, m3⟩ := h2.setC (j := 1) (c := ⟨num, 1, who, sn, bo, nth⟩) (u := .int .i64 2) hv HIL.out (by decide) (by rw [← HCI.out]; rfl)
  rw [← HP1.out] at g3
  have d5b := g3.blk.cell 5 _ rfl
  have hpl3 := g3.blk.lt
  have hci3 : cnAt P1.l i = ⟨num, 1, who, sn, bo, nth⟩ := by
    rw [HP1.out, cnAt_eq (by rw [List.length_set]; exact HIL.out)]
    simp
  obtain ⟨g', cap', hv', _, _, hg3, _, _, c2b, _⟩ := g3.at_ (i := i) (by rw [HP1.out]; simp only [List.length_set]; exact HIL.out)
  rw [hci3] at c2b
  simp only at c2b
  have hgg : g' = g := by rw [hv] at hv'; injection hv' with e1; injection e1 with e1; injection e1 with e1; exact e1.symm
  subst hgg
  have H3 := Lib.hid g3
  have HM3 := Lib.hid m3
  have HV := Lib.hid hv
  clear h2 g3 m3 hfr hci3 hv'
  rw [← HLN.out] at hc1
  rw [hv, ← HLN.out] at d5 d5b
  clear hv
  go_upto_region 5 with fail
  generalize w2.setCell ⟨g', i * 5 + 1, none⟩ (.int .i64 2) = w3 at H3 HM3 c2b d5b hpl3 hg3 ⊢
  clear c1 c2 fr1 d5 hpl hg
  go_wp2
  go_ret2
  exact ⟨rfl, R, ⟨_, HREL.out⟩, _, _, _, H3.out, (HM.out.trans (Mv.of_only HD.out)).trans HM3.out⟩
theorem gup_any (h : GQ F w0 w lo p P) (n : Int) :
    Calls Try.prog 39 #[ptr p, .int .i64 n] w fun e w' => e = .returned (.tuple #[.int .i64 (up P n).2.1, .int .i64 (up P n).2.2]) ∧ GQ F w0 w' lo p (up P n).1 := by
  obtain ⟨R, ⟨Cs, hr⟩, h⟩ := h
  unfold up
  cases ha : atI P n with
  | none => exact (gup_none h n (fun i hi => by rw [ha] at hi; cases hi)).mono (by rintro e w' ⟨rfl, hP⟩; exact ⟨rfl, R, ⟨Cs, hr⟩, hP⟩)
  | some i =>
    simp only
    by_cases hst : (cnAt P.l i).st = 0
    · rw [if_pos hst]; exact gup_some h hr n ha hst
    · rw [if_neg hst]
      exact (gup_none h n (fun j hj => by rw [ha] at hj; injection hj with hj; rw [← hj]; exact hst)).mono (by rintro e w' ⟨rfl, hP⟩; exact ⟨rfl, R, ⟨Cs, hr⟩, hP⟩)

structure GAcP (F : Nat → Prop) (w0 w w' : World) (lo p : Nat) (P : Pp) (v : Value) (o : List Ac) : Prop where
  pp : GQ F w0 w' lo p P
  row : w'.ownsRow w.heap.size 82 3 v o.length (acCells o)
theorem GAcP.none {w' : World} (h : GQ F w0 w' lo p P) : GAcP F w0 w w' lo p P (.slice none 0 0) [] := ⟨h, World.ownsRow_nil _ _ _ _⟩
theorem GAcP.of {w1 w' : World} {v : Value} {o : List Ac} (hs : w.heap.size ≤ w1.heap.size) (h : GSvP F w0 w1 w' lo p P v o) : GAcP F w0 w w' lo p P v o := ⟨h.pp, ownsRow_lower h.row hs⟩
/-- cut at a connection that is there. -/
theorem gcut_at (h : Gw w lo p P R vl vr vw) (hr : RelC P R Cs) {k : Nat} (hk : Okp P k) {n : Int} {i : Nat} (ha : atI P n = some i) :
    Calls Try.prog 59 #[ptr p, .int .i64 n] w fun e w' => e = .returned (.tuple #[]) ∧ GP (gfoot p vl vr vw) w w' lo p (cutI P i) (rmv R n) ∧ Rel (cutI P i) (rmv R n) := by
  have hil := atI_lt ha
  have hn := atI_num ha
  have hl := hr.len
  have h1 := gcut_any h (by rw [hl]; exact Nat.le_trans (show resting P.l ≤ P.l.length from List.length_filter_le _ _) hk.l64) hk.l64 n
  have he : others P.l n = P.l.eraseIdx i := by rw [← hn]; exact hr.others_ hil
  rw [he] at h1
  have hrel := hr.cutI_ hil
  rw [hn] at hrel
  exact h1.mono (by rintro e w' ⟨rfl, hP⟩; exact ⟨rfl, hP, _, hrel⟩)
set_option maxRecDepth 100000 in
set_option maxHeartbeats 800000 in
theorem ggone_any (h : GQ F w0 w lo p P) {k : Nat} (hk : Okp P k) (hk9 : k < 9223372036854775807) (now n : Int) :
    Calls Try.prog 40 #[ptr p, .int .i64 now, .int .i64 n] w fun e w' => ∃ v, e = .returned (.tuple #[.int .i64 (gone P now n).2.1, v, .int .i64 (gone P now n).2.2.2]) ∧ GAcP F w0 w w' lo p (gone P now n).1 v (gone P now n).2.2.1 := by
  unfold gone
  by_cases hm : isMoment now
  · rw [if_neg (fun e => e hm)]
    obtain ⟨nn, rfl⟩ : ∃ nn : Nat, now = nn := ⟨now.toNat, by have := hm.1; omega⟩
    have hnn : nn ≤ 4611686018427387904 := by have := hm.2; omega
    have HM := Lib.hid (fun w => rmoment_ok nn w hm.1 hm.2)
    have HQ := Lib.hid h
    obtain ⟨R, ⟨Cs, hr⟩, vl, vr, vw, hp, hmv⟩ := h
    have hf := find_any hp n
    cases ha : atI P n with
    | none =>
      rw [ha] at hf
      simp only [idxV] at hf
      have HF := Lib.hid hf
      clear hp hmv hf ha hk hm hr
      simp only
      go_enter Try.func40, Try.ntmps40
      go_wp2_with (first
        | (go_at_call 16; (refine (HM.out _).mono ?_); rintro e w' ⟨rfl, rfl⟩)
        | (go_at_call 58; (refine HF.out.mono ?_); rintro e w2 ⟨rfl, hd⟩; have HD := Lib.hid hd; clear hd))
      go_ret3
      exact ⟨_, rfl, GAcP.none (HQ.out.only0 HD.out)⟩
    | some i =>
      have hil := atI_lt ha
      rw [ha] at hf
      simp only [idxV] at hf
      simp only [Int.toNat_natCast]
      have hcell : ∀ w', Only (fun _ => False) w w' → ∃ g cap, vl = .slice (some ⟨g, 0, none⟩) P.l.length cap ∧ P.l.length ≤ cap ∧ cap ≤ 9223372036854775807 ∧ g < w'.heap.size ∧ w'.cell? ⟨g, i * 5 + 1, none⟩ = some (.int .i64 (((cnAt P.l i).st : Int) + 1)) ∧ w'.cell? ⟨g, i * 5 + 2, none⟩ = some (.int .i64 (cnAt P.l i).who) ∧ w'.cell? ⟨p, 5, none⟩ = some vl ∧ p < w'.heap.size ∧ (Calls Try.prog 59 #[ptr p, .int .i64 n] w' fun e w'' => e = .returned (.tuple #[]) ∧ GP (gfoot p vl vr vw) w' w'' lo p (cutI P i) (rmv R n) ∧ Rel (cutI P i) (rmv R n)) := fun w' ho => by
        obtain ⟨g, cap, e, a1, a2, a3, _, b1, b2, _⟩ := (hp.only0 ho).at_ hil
        exact ⟨g, cap, e, a1, a2, a3, b1, b2, (hp.only0 ho).blk.cell 5 _ rfl, (hp.only0 ho).blk.lt, gcut_at (hp.only0 ho) hr hk ha⟩
      have HC := Lib.hid hcell
      have HF := Lib.hid hf
      have HV := Lib.hid hmv
      have HK := Lib.hid (cut_ok (i := i) hk)
      obtain ⟨P1, hP1⟩ : ∃ P1, P1 = cutI P i := ⟨_, rfl⟩
      rw [← hP1] at HK HC ⊢
      obtain ⟨ow, how⟩ : ∃ ow, ow = if (cnAt P.l i).st = 2 then -1 else (cnAt P.l i).who := ⟨_, rfl⟩
      rw [← how]
      have HOW := Lib.hid how
      obtain ⟨ln, hln⟩ : ∃ ln, ln = P.l.length := ⟨_, rfl⟩
      rw [← hln] at HC hil
      have hi64 : i ≤ 9223372036854775807 := by have := hk.l64; omega
      generalize (cnAt P.l i).who = who at HC HOW
      clear hp hmv hf ha hk hm hcell hP1 how hln hr
      by_cases hst : (cnAt P.l i).st = 2
      · have how : ow = -1 := by rw [HOW.out, if_pos hst]
        subst how
        rw [hst, show (((2 : Nat) : Int) + 1) = 3 from rfl] at HC
        clear hst HOW
        go_enter Try.func40, Try.ntmps40
        go_wp2_with (first
          | (go_at_call 16; (refine (HM.out _).mono ?_); rintro e w' ⟨rfl, rfl⟩)
          | (go_at_call 58; (refine HF.out.mono ?_); rintro e w2 ⟨rfl, hd⟩; have HD := Lib.hid hd; obtain ⟨g, cap, rfl, hc1, hc2, hg, k1, k2, d5, hpl, hcut⟩ := HC.out w2 hd; have HCUT := Lib.hid hcut; clear hd hcut)
          | (go_at_call 59; (refine HCUT.out.mono ?_); rintro e w3 ⟨rfl, hc, hrr⟩; have HCC := Lib.hid (GP.then_ (Mv.of_only HD.out) hc); have HRR := Lib.hid hrr; clear hc hrr)
          | (go_at_call 60; (refine (gserve_any (GP.then_ HV.out HCC.out) HRR.out HK.out hk9 nn hnn).mono ?_); rintro e w4 ⟨v4, rfl, hs⟩; have HS := Lib.hid hs; clear hs))
        go_ret3
        exact ⟨_, rfl, GAcP.of HCC.out.size HS.out⟩
      · have how : ow = who := by rw [HOW.out, if_neg hst]
        subst how
        have f1 : ((((cnAt P.l i).st : Int) + 1) == 3) = false := beq_eq_false_iff_ne.2 (by omega)
        generalize ((cnAt P.l i).st : Int) + 1 = s at f1 HC
        clear hst HOW
        go_enter Try.func40, Try.ntmps40
        go_wp2_with (first
          | (go_at_call 16; (refine (HM.out _).mono ?_); rintro e w' ⟨rfl, rfl⟩)
          | (go_at_call 58; (refine HF.out.mono ?_); rintro e w2 ⟨rfl, hd⟩; have HD := Lib.hid hd; obtain ⟨g, cap, rfl, hc1, hc2, hg, k1, k2, d5, hpl, hcut⟩ := HC.out w2 hd; have HCUT := Lib.hid hcut; clear hd hcut)
          | (go_at_call 59; (refine HCUT.out.mono ?_); rintro e w3 ⟨rfl, hc, hrr⟩; have HCC := Lib.hid (GP.then_ (Mv.of_only HD.out) hc); have HRR := Lib.hid hrr; clear hc hrr)
          | (go_at_call 60; (refine (gserve_any (GP.then_ HV.out HCC.out) HRR.out HK.out hk9 nn hnn).mono ?_); rintro e w4 ⟨v4, rfl, hs⟩; have HS := Lib.hid hs; clear hs))
        go_ret3
        exact ⟨_, rfl, GAcP.of HCC.out.size HS.out⟩
  · rw [if_pos hm]
    have HM := Lib.hid (fun w => rmoment_bad now w (by unfold isMoment at hm; omega))
    have H := Lib.hid h
    clear h hk hm
    go_enter Try.func40, Try.ntmps40
    go_wp2_with (go_at_call 16; (refine (HM.out _).mono ?_); rintro e w' ⟨rfl, rfl⟩)
    go_ret3
    exact ⟨_, rfl, GAcP.none H.out⟩
end
end Go.Proofs.Ytmpcffkandmacaa
