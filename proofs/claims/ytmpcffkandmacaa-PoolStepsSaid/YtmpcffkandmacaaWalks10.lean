/- Done. -/
import Derived.Test.YtmpcffkandmacaaWalks9
namespace Go.Proofs.Ytmpcffkandmacaa
open Go.RowKit
set_option linter.unusedVariables false
set_option linter.unusedSimpArgs false

section
variable {F : Nat → Prop} {w0 w : World} {lo p : Nat} {P : Pp} {X : List (Nat × Cn)} {vl vw : Value}
set_option maxRecDepth 100000 in
set_option maxHeartbeats 1600000 in
/-- Nothing is done. -/
theorem done_none (h : PP F w0 w lo p P) (now n : Int) (keep : Bool) (hm : isMoment now) (hi : ∀ i, atI P n = some i → (cnAt P.l i).st ≠ 1) :
    Calls Try.prog 11 #[ptr p, .int .i64 now, .int .i64 n, .bool keep] w fun e w' => e = .returned (.tuple #[.slice none 0 0, .int .i64 6]) ∧ PP F w0 w' lo p P := by
  have HM := Lib.hid (fun w => moment_ok now w hm.1 hm.2)
  obtain ⟨X, vl, vw, h, hmv⟩ := h
  have hA := at_any h n
  cases ha : atI P n with
  | none =>
    rw [ha] at hA
    simp only [cptr] at hA
    have HA := Lib.hid hA
    have H := Lib.hid h
    have HV := Lib.hid hmv
    clear h hmv hA hi ha hm
    go_enter Try.func11, Try.ntmps11
    go_wp2_with (first
      | (go_at_call 23; (refine (HM.out _).mono ?_); rintro e w' ⟨rfl, rfl⟩)
      | (go_at_call 27; (refine HA.out.mono ?_); rintro e w2 ⟨rfl, hd⟩; have HD := Lib.hid hd; clear hd))
    go_ret2
    exact ⟨rfl, (PP.only0 ⟨X, vl, vw, H.out, HV.out⟩ HD.out)⟩
  | some i =>
    have hil := atI_lt ha
    obtain ⟨b, hb⟩ := h.at_ hil
    have hcp : cptr X (some i) = ptr b := by simp [cptr, List.getD_eq_getElem?_getD, hb]
    rw [ha, hcp] at hA
    have hst := hi i ha
    have f1 : (((cnAt P.l i).st : Int) == 1) = false := beq_eq_false_iff_ne.2 (by omega)
    have f2 : (((cnAt P.l i).st : Int) != 1) = true := by rw [bne, f1]; rfl
    have hcell : ∀ w', Only (fun _ => False) w w' → w'.cell? ⟨b, 1, none⟩ = some (.int .i64 (cnAt P.l i).st) ∧ b < w'.heap.size := fun w' ho => by
      obtain ⟨_, _, hbk, _⟩ := (h.only ho (fun _ _ h => h)).cnAt_ hb
      exact ⟨hbk.cell 1 _ rfl, hbk.lt⟩
    have HC := Lib.hid hcell
    have HA := Lib.hid hA
    have H := Lib.hid h
    have HV := Lib.hid hmv
    generalize (cnAt P.l i).st = s at f1 f2 HC
    clear h hmv hA hi ha hcp hcell hst hil hb hm
    go_enter Try.func11, Try.ntmps11
    go_wp2_with (first
      | (go_at_call 23; (refine (HM.out _).mono ?_); rintro e w' ⟨rfl, rfl⟩)
      | (go_at_call 27; (refine HA.out.mono ?_); rintro e w2 ⟨rfl, hd⟩; have HD := Lib.hid hd; obtain ⟨k1, hbl⟩ := HC.out w2 hd; clear hd))
    go_ret2
    exact ⟨rfl, (PP.only0 ⟨X, vl, vw, H.out, HV.out⟩ HD.out)⟩

/-- What is read of a connection that works. -/
structure WkC (F0 : Nat → Prop) (w w' : World) (lo p b : Nat) (P : Pp) (c : Cn) : Prop where
  st : w'.cell? ⟨b, 1, none⟩ = some (.int .i64 c.st)
  born : w'.cell? ⟨b, 4, none⟩ = some (.int .i64 c.born)
  bl : b < w'.heap.size
  life : w'.cell? ⟨p, 3, none⟩ = some (.int .i64 P.life)
  pl : p < w'.heap.size
set_option maxRecDepth 100000 in
set_option maxHeartbeats 1600000 in
theorem done_cut (h : PP F w0 w lo p P) {k : Nat} (hk : Okp P k) (hk9 : k < 9223372036854775807) (nn : Nat) (hnn : nn ≤ 4611686018427387904) (n : Int) (keep : Bool) {i : Nat} (ha : atI P n = some i) (hst : (cnAt P.l i).st = 1) (hkeep : keep = false ∨ later (cnAt P.l i).born P.life ≤ nn) :
    Calls Try.prog 11 #[ptr p, .int .i64 nn, .int .i64 n, .bool keep] w fun e w' => ∃ v, e = .returned (.tuple #[v, .int .i64 0]) ∧ AcP F w0 w w' lo p (serve (cutI P i) nn).1 v (⟨5, n, -1⟩ :: (serve (cutI P i) nn).2) := by
  have HM := Lib.hid (fun w => moment_ok nn w (by omega) (by omega))
  obtain ⟨X, vl, vw, hp, hmv⟩ := h
  have hA := at_any hp n
  have hil := atI_lt ha
  obtain ⟨b, hb⟩ := hp.at_ hil
  have hcp : cptr X (some i) = ptr b := by simp [cptr, List.getD_eq_getElem?_getD, hb]
  rw [ha, hcp] at hA
  have hcell : ∀ w', Only (fun _ => False) w w' → WkC F w w' lo p b P (cnAt P.l i) ∧ Calls Try.prog 29 #[ptr p, ptr b] w' (fun e w'' => e = .returned (.tuple #[]) ∧ PP (foot p X vl vw) w' w'' lo p (cutI P i)) := fun w' ho => by
    have h' := hp.only ho (fun _ _ h => h)
    obtain ⟨_, _, hbk, _⟩ := h'.cnAt_ hb
    exact ⟨⟨hbk.cell 1 _ rfl, hbk.cell 4 _ rfl, hbk.lt, h'.blk.cell 3 _ rfl, h'.blk.lt⟩, cut_any h' hb (by rw [← hp.len]; exact hk.l64)⟩
  have hborn := (hk.t _ (cnAt_mem hil)).2.1
  have hlife := hk.n.f.2
  obtain ⟨L, hL⟩ : ∃ L, L = later (cnAt P.l i).born P.life := ⟨_, rfl⟩
  have hlat : ∀ w, Calls Try.prog 28 #[.int .i64 (cnAt P.l i).born, .int .i64 P.life] w fun e w' => e = .returned (.tuple #[.int .i64 L, .int .i64 0]) ∧ w = w' := fun w => by rw [hL]; exact tadd_ok _ _ w hborn hlife
  rw [← hL] at hkeep
  have HLAT := Lib.hid hlat
  have HC := Lib.hid hcell
  have HA := Lib.hid hA
  have HP := Lib.hid hp
  have HV := Lib.hid hmv
  have HK := Lib.hid (cut_ok (i := i) hk)
  obtain ⟨P1, hP1⟩ : ∃ P1, P1 = cutI P i := ⟨_, rfl⟩
  rw [← hP1] at HK HC ⊢
  obtain ⟨c, hc⟩ : ∃ c, c = cnAt P.l i := ⟨_, rfl⟩
  rw [← hc] at hst HC HLAT
  have HST := Lib.hid hst
  clear hp hmv hA ha hk hb hil hcp hcell hP1 hL hlat hborn hlife hc hst
  go_enter Try.func11, Try.ntmps11
  go_upto_region 5 with (first
    | (go_at_call 23; (refine (HM.out _).mono ?_); rintro e w' ⟨rfl, rfl⟩)
    | (go_at_call 27; (refine HA.out.mono ?_); rintro e w2 ⟨rfl, hd⟩; have HD := Lib.hid hd; clear hd))
  obtain ⟨hwk, hcut⟩ := HC.out w2 HD.out
  have k1 := hwk.st
  rw [HST.out] at k1
  have k4 := hwk.born
  have hbl := hwk.bl
  have k3 := hwk.life
  have hpl := hwk.pl
  generalize c.born = bo at k4 HLAT
  generalize P.life = li at k3 HLAT
  clear hwk hcut
  go_upto_region 7 with fail
  go_quiet ((go_at_call 28; refine (HLAT.out _).mono ?_; rintro e w' ⟨rfl, rfl⟩; exact ⟨rfl, _, rfl⟩))
  have HD3 := Lib.hid (HD.out.trans ((Drawn.of w2 nq).only (fun _ => False)) (fun _ _ h => h))
  clear k1 k4 hbl k3 hpl
  generalize w2.drewN nq = w3 at HD3 ⊢
  have HCUT := Lib.hid (HC.out w3 HD3.out).2
  have hfin : ∀ (w4 : World), PP (foot p X vl vw) w3 w4 lo p P1 → PP (foot p X vl vw) w (w4.alloc (Obj.cells #[.int .i64 5, .int .i64 n, .int .i64 (-1)] 27)) lo p P1 ∧ (w4.alloc (Obj.cells #[.int .i64 5, .int .i64 n, .int .i64 (-1)] 27)).ownsRow w.heap.size 27 3 (.slice (some ⟨w4.heap.size, 0, none⟩) 1 1) [(⟨5, n, -1⟩ : Ac)].length (acCells [⟨5, n, -1⟩]) := fun w4 hc => by
    have h4 := PP.then_ (Mv.of_only HD3.out) hc
    exact ⟨h4.only0 ((Only.refl _ _).alloc _), row_one w4 ⟨5, n, -1⟩ _ h4.size⟩
  have HFIN := Lib.hid hfin
  clear hfin
  have h1000 : k < 9223372036854775807 := hk9
  cases keep with
  | false =>
    clear hkeep
    go_wp2_with (first
      | (go_at_call 29; (refine HCUT.out.mono ?_); rintro e w4 ⟨rfl, hc⟩; have HCC := Lib.hid (HFIN.out _ hc); clear hc)
      | (go_at_call 30; (refine (serve_any HCC.out.1 HK.out hk9 nn hnn HCC.out.2 (by simp)).mono ?_); rintro e w5 ⟨v5, rfl, hs⟩; have HS := Lib.hid hs; clear hs))
    go_ret2
    exact ⟨_, rfl, AcP.of HV.out HS.out⟩
  | true =>
    have hln : L ≤ nn := hkeep.resolve_left (by decide)
    have f1 : decide ((L : Int) ≤ (nn : Int)) = true := decide_eq_true (by omega)
    have f1n : decide (L ≤ nn) = true := decide_eq_true hln
    clear hkeep
    go_wp2_with (first
      | (go_at_call 29; (refine HCUT.out.mono ?_); rintro e w4 ⟨rfl, hc⟩; have HCC := Lib.hid (HFIN.out _ hc); clear hc)
      | (go_at_call 30; (refine (serve_any HCC.out.1 HK.out hk9 nn hnn HCC.out.2 (by simp)).mono ?_); rintro e w5 ⟨v5, rfl, hs⟩; have HS := Lib.hid hs; clear hs))
    go_ret2
    exact ⟨_, rfl, AcP.of HV.out HS.out⟩
set_option maxRecDepth 100000 in
set_option maxHeartbeats 1600000 in
theorem done_keep (h : PP F w0 w lo p P) {k : Nat} (hk : Okp P k) (hk9 : k + 1 < 9223372036854775807) (nn : Nat) (hnn : nn ≤ 4611686018427387904) (n : Int) {i : Nat} (ha : atI P n = some i) (hst : (cnAt P.l i).st = 1) (hkeep : ¬ later (cnAt P.l i).born P.life ≤ nn) :
    Calls Try.prog 11 #[ptr p, .int .i64 nn, .int .i64 n, .bool true] w fun e w' => ∃ v, e = .returned (.tuple #[v, .int .i64 0]) ∧ AcP F w0 w w' lo p (serve (restI P i nn) nn).1 v (serve (restI P i nn) nn).2 := by
  have HM := Lib.hid (fun w => moment_ok nn w (by omega) (by omega))
  obtain ⟨X, vl, vw, hp, hmv⟩ := h
  have hA := at_any hp n
  have hil := atI_lt ha
  obtain ⟨b, hb⟩ := hp.at_ hil
  have hcp : cptr X (some i) = ptr b := by simp [cptr, List.getD_eq_getElem?_getD, hb]
  rw [ha, hcp] at hA
  have hcell : ∀ w', Only (fun _ => False) w w' → WkC F w w' lo p b P (cnAt P.l i) := fun w' ho => by
    have h' := hp.only ho (fun _ _ h => h)
    obtain ⟨_, _, hbk, _⟩ := h'.cnAt_ hb
    exact ⟨hbk.cell 1 _ rfl, hbk.cell 4 _ rfl, hbk.lt, h'.blk.cell 3 _ rfl, h'.blk.lt⟩
  have hborn := (hk.t _ (cnAt_mem hil)).2.1
  have hlife := hk.n.f.2
  obtain ⟨L, hL⟩ : ∃ L, L = later (cnAt P.l i).born P.life := ⟨_, rfl⟩
  have hlat : ∀ w, Calls Try.prog 28 #[.int .i64 (cnAt P.l i).born, .int .i64 P.life] w fun e w' => e = .returned (.tuple #[.int .i64 L, .int .i64 0]) ∧ w = w' := fun w => by rw [hL]; exact tadd_ok _ _ w hborn hlife
  rw [← hL] at hkeep
  have HLAT := Lib.hid hlat
  have HC := Lib.hid hcell
  have HA := Lib.hid hA
  have HP := Lib.hid hp
  have HV := Lib.hid hmv
  have HK := Lib.hid (rest_ok (now := nn) hk hil hnn)
  obtain ⟨r, hr⟩ : ∃ r, r = P.rested := ⟨_, rfl⟩
  have hr9 : r < 9223372036854775806 := by have := hk.r; omega
  have HR := Lib.hid hr
  obtain ⟨P1, hP1⟩ : ∃ P1, P1 = restI P i nn := ⟨_, rfl⟩
  rw [← hP1] at HK ⊢
  obtain ⟨c, hc⟩ : ∃ c, c = cnAt P.l i := ⟨_, rfl⟩
  rw [← hc] at hst HC HLAT hb
  have HST := Lib.hid hst
  have HB := Lib.hid hb
  have HP1 := Lib.hid (show P1 = { P with rested := r + 1, l := P.l.set i { c with st := 2, since := nn, nth := r + 1 } } from by rw [hP1, hr, hc]; rfl)
  clear hp hmv hA ha hk hb hil hcp hcell hP1 hL hlat hborn hlife hc hst hr
  go_enter Try.func11, Try.ntmps11
  go_upto_region 5 with (first
    | (go_at_call 23; (refine (HM.out _).mono ?_); rintro e w' ⟨rfl, rfl⟩)
    | (go_at_call 27; (refine HA.out.mono ?_); rintro e w2 ⟨rfl, hd⟩; have HD := Lib.hid hd; clear hd))
  have hwk := HC.out w2 HD.out
  have k1 := hwk.st
  rw [HST.out] at k1
  have k4 := hwk.born
  have hbl := hwk.bl
  have k3 := hwk.life
  have hpl := hwk.pl
  generalize c.born = bo at k4 HLAT
  generalize P.life = li at k3 HLAT
  clear hwk
  go_upto_region 7 with fail
  go_quiet ((go_at_call 28; refine (HLAT.out _).mono ?_; rintro e w' ⟨rfl, rfl⟩; exact ⟨rfl, _, rfl⟩))
  have HD3 := Lib.hid (HD.out.trans ((Drawn.of w2 nq).only (fun _ => False)) (fun _ _ h => h))
  clear k1 k4 hbl k3 hpl
  generalize w2.drewN nq = w3 at HD3 ⊢
  have f1 : decide ((L : Int) ≤ (nn : Int)) = false := decide_eq_false (by omega)
  have f1n : decide (L ≤ nn) = false := decide_eq_false hkeep
  have h3 := HP.out.only HD3.out (fun _ _ h => h)
  have k5 : w3.cell? ⟨p, 5, none⟩ = some (.int .i64 r) := by rw [HR.out]; exact h3.blk.cell 5 _ rfl
  have f5 := h3.blk.free 5
  have hpl := h3.blk.lt
  have e4 : ppC { P with rested := r + 1 } vl vw = (ppC P vl vw).set 5 (.int .i64 ((r : Int) + 1)) := rfl
  have h4 := h3.setF (P' := { P with rested := r + 1 }) (i := 5) (u := .int .i64 ((r : Int) + 1)) e4 rfl rfl
  have m4 : Mv (foot p X vl vw) (foot p X vl vw) w3 (w3.setCell ⟨p, 5, none⟩ (.int .i64 ((r : Int) + 1))) := ⟨(only_p w3 p 5 _).mono (fun k _ hk => .inl hk), fun k hk => .inl hk⟩
  clear h3 e4
  go_upto_region 12 with fail
  generalize w3.setCell ⟨p, 5, none⟩ (.int .i64 ((r : Int) + 1)) = w4 at h4 m4 ⊢
  obtain ⟨_, _, hbk, _⟩ := h4.cnAt_ HB.out
  have k1 := hbk.cell 1 _ rfl
  have k3 := hbk.cell 3 _ rfl
  have k5b := hbk.cell 5 _ rfl
  have g1 := hbk.free 1
  have g3 := hbk.free 3
  have g5 := hbk.free 5
  have hbl := hbk.lt
  have k5 : w4.cell? ⟨p, 5, none⟩ = some (.int .i64 ((r : Int) + 1)) := h4.blk.cell 5 _ rfl
  have hpl := h4.blk.lt
  obtain ⟨h5, m5⟩ := h4.setC_mv HB.out (j := 1) (u := .int .i64 2) (c' := { c with st := 2 }) rfl
  have hi5 : (X.set i (b, { c with st := 2 }))[i]? = some (b, { c with st := 2 }) := by
    obtain ⟨hx, _⟩ := List.getElem?_eq_some_iff.1 HB.out
    simp [hx]
  obtain ⟨h6, m6⟩ := h5.setC_mv hi5 (j := 3) (u := .int .i64 nn) (c' := { c with st := 2, since := nn }) rfl
  rw [set_set'] at h6 m6
  have hi6 : (X.set i (b, { c with st := 2, since := nn }))[i]? = some (b, { c with st := 2, since := nn }) := by
    obtain ⟨hx, _⟩ := List.getElem?_eq_some_iff.1 HB.out
    simp [hx]
  obtain ⟨h7, m7⟩ := h6.setC_mv hi6 (j := 5) (u := .int .i64 ((r : Int) + 1)) (c' := { c with st := 2, since := nn, nth := r + 1 }) rfl
  rw [set_set'] at h7 m7
  have HM7 := Lib.hid (((m4.trans m5).trans m6).trans m7)
  have h7 : Pw (((w4.setCell ⟨b, 1, none⟩ (.int .i64 2)).setCell ⟨b, 3, none⟩ (.int .i64 nn)).setCell ⟨b, 5, none⟩ (.int .i64 ((r : Int) + 1))) lo p P1 (X.set i (b, { c with st := 2, since := nn, nth := r + 1 })) vl vw := by
    rw [HP1.out]
    have e : ({ P with rested := r + 1, l := ((P.l.set i { c with st := 2 }).set i { c with st := 2, since := nn }).set i { c with st := 2, since := nn, nth := r + 1 } } : Pp) = { P with rested := r + 1, l := P.l.set i { c with st := 2, since := nn, nth := r + 1 } } := by rw [set_set, set_set]
    rw [← e]
    exact h7
  have hpp : PP (foot p X vl vw) w (((w4.setCell ⟨b, 1, none⟩ (.int .i64 2)).setCell ⟨b, 3, none⟩ (.int .i64 nn)).setCell ⟨b, 5, none⟩ (.int .i64 ((r : Int) + 1))) lo p P1 := ⟨_, _, _, h7, (Mv.of_only HD3.out).trans HM7.out⟩
  clear hbk h4 m4 h5 m5 hi5 h6 m6 hi6 h7 m7
  go_upto_region 13 with fail
  have HPP := Lib.hid hpp
  clear k1 k3 k5b g1 g3 g5 hbl k5 hpl hpp
  generalize ((w4.setCell ⟨b, 1, none⟩ (.int .i64 2)).setCell ⟨b, 3, none⟩ (.int .i64 nn)).setCell ⟨b, 5, none⟩ (.int .i64 ((r : Int) + 1)) = w7 at HPP ⊢
  go_wp2_with (go_at_call 30; (refine (serve_any HPP.out HK.out hk9 nn hnn (outs := []) (World.ownsRow_nil _ _ _ _) (by decide)).mono ?_); rintro e w5 ⟨v5, rfl, hs⟩; have HS := Lib.hid hs; clear hs)
  go_ret2
  exact ⟨_, rfl, AcP.of HV.out HS.out⟩
/-- A connection's work is done. -/
theorem done_any (h : PP F w0 w lo p P) {k : Nat} (hk : Okp P k) (hk9 : k + 1 < 9223372036854775807) (now n : Int) (keep : Bool) :
    Calls Try.prog 11 #[ptr p, .int .i64 now, .int .i64 n, .bool keep] w fun e w' => ∃ v, e = .returned (.tuple #[v, .int .i64 (done P now n keep).2.2]) ∧ AcP F w0 w w' lo p (done P now n keep).1 v (done P now n keep).2.1 := by
  unfold done
  by_cases hm : isMoment now
  · rw [if_neg (fun e => e hm)]
    have hno : (∀ i, atI P n = some i → (cnAt P.l i).st ≠ 1) → Calls Try.prog 11 #[ptr p, .int .i64 now, .int .i64 n, .bool keep] w fun e w' => ∃ v, e = .returned (.tuple #[v, .int .i64 6]) ∧ AcP F w0 w w' lo p P v [] := fun hi =>
      (done_none h now n keep hm hi).mono (by rintro e w' ⟨rfl, hP⟩; exact ⟨_, rfl, AcP.none hP⟩)
    cases ha : atI P n with
    | none => exact hno (fun i hi => by rw [ha] at hi; cases hi)
    | some i =>
      simp only
      by_cases hst : (cnAt P.l i).st = 1
      · rw [if_neg (fun e => e hst)]
        obtain ⟨nn, rfl⟩ : ∃ nn : Nat, now = nn := ⟨now.toNat, by have := hm.1; omega⟩
        have hnn : nn ≤ 4611686018427387904 := by have := hm.2; omega
        simp only [Int.toNat_natCast]
        by_cases hkp : keep = false ∨ later (cnAt P.l i).born P.life ≤ nn
        · rw [if_pos hkp]
          exact done_cut h hk (by omega) nn hnn n keep ha hst hkp
        · rw [if_neg hkp]
          have hkt : keep = true := by
            cases keep with
            | true => rfl
            | false => exact absurd (.inl rfl) hkp
          subst hkt
          exact done_keep h hk hk9 nn hnn n ha hst (fun e => hkp (.inr e))
      · rw [if_pos hst]
        exact hno (fun j hj => by rw [ha] at hj; injection hj with hj; rw [← hj]; exact hst)
  · rw [if_pos hm]
    have HM := Lib.hid (fun w => moment_bad now w (by unfold isMoment at hm; omega))
    have H := Lib.hid h
    clear h hk hm
    go_enter Try.func11, Try.ntmps11
    go_wp2_with (go_at_call 23; (refine (HM.out _).mono ?_); rintro e w' ⟨rfl, rfl⟩)
    go_ret2
    exact ⟨_, rfl, AcP.none H.out⟩
end
end Go.Proofs.Ytmpcffkandmacaa
