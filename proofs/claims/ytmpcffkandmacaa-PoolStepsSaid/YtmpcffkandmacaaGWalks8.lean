/- The reference: Done. -/
import Derived.Test.YtmpcffkandmacaaGWalks7
namespace Go.Proofs.Ytmpcffkandmacaa
open Go.RowKit
set_option linter.unusedVariables false
set_option linter.unusedSimpArgs false

section
variable {F : Nat → Prop} {w0 w : World} {lo p : Nat} {P : Pp} {R : List Nat} {vl vr vw : Value} {Cs : List Cn}
set_option maxRecDepth 100000 in
set_option maxHeartbeats 800000 in
theorem gdone_none (h : GQ F w0 w lo p P) (now n : Int) (keep : Bool) (hm : isMoment now) (hi : ∀ i, atI P n = some i → (cnAt P.l i).st ≠ 1) :
    Calls Try.prog 41 #[ptr p, .int .i64 now, .int .i64 n, .bool keep] w fun e w' => e = .returned (.tuple #[.slice none 0 0, .int .i64 6]) ∧ GQ F w0 w' lo p P := by
  have HM := Lib.hid (fun w => rmoment_ok now w hm.1 hm.2)
  have H0 := Lib.hid h
  obtain ⟨R, hr, vl, vr, vw, h, hmv⟩ := h
  have hf := find_any h n
  cases ha : atI P n with
  | none =>
    rw [ha] at hf
    simp only [idxV] at hf
    have HF := Lib.hid hf
    clear h hmv hf hi ha hm
    go_enter Try.func41, Try.ntmps41
    go_wp2_with (first
      | (go_at_call 16; (refine (HM.out _).mono ?_); rintro e w' ⟨rfl, rfl⟩)
      | (go_at_call 58; (refine HF.out.mono ?_); rintro e w2 ⟨rfl, hd⟩; have HD := Lib.hid hd; clear hd))
    go_ret2
    exact ⟨rfl, H0.out.only0 HD.out⟩
  | some i =>
    have hil := atI_lt ha
    rw [ha] at hf
    simp only [idxV] at hf
    have hst := hi i ha
    have hcell : ∀ w', Only (fun _ => False) w w' → ∃ g cap, vl = .slice (some ⟨g, 0, none⟩) P.l.length cap ∧ P.l.length ≤ cap ∧ cap ≤ 9223372036854775807 ∧ g < w'.heap.size ∧ w'.cell? ⟨g, i * 5 + 1, none⟩ = some (.int .i64 (((cnAt P.l i).st : Int) + 1)) ∧ w'.cell? ⟨p, 5, none⟩ = some vl ∧ p < w'.heap.size := fun w' ho => by
      obtain ⟨g, cap, e, a1, a2, a3, _, b1, _⟩ := (h.only0 ho).at_ hil
      exact ⟨g, cap, e, a1, a2, a3, b1, (h.only0 ho).blk.cell 5 _ rfl, (h.only0 ho).blk.lt⟩
    have f1 : ((((cnAt P.l i).st : Int) + 1) == 2) = false := beq_eq_false_iff_ne.2 (by omega)
    have f2 : ((((cnAt P.l i).st : Int) + 1) != 2) = true := by rw [bne, f1]; rfl
    generalize ((cnAt P.l i).st : Int) + 1 = s1 at hcell f1 f2
    obtain ⟨ln, hln⟩ : ∃ ln, ln = P.l.length := ⟨_, rfl⟩
    rw [← hln] at hcell hil
    have hi64 : i ≤ 9223372036854775807 := by
      obtain ⟨_, _, _, a1, a2, _⟩ := hcell w (Only.refl _ _)
      omega
    have HC := Lib.hid hcell
    have HF := Lib.hid hf
    clear h hmv hf hi ha hcell hst hln hm
    go_enter Try.func41, Try.ntmps41
    go_wp2_with (first
      | (go_at_call 16; (refine (HM.out _).mono ?_); rintro e w' ⟨rfl, rfl⟩)
      | (go_at_call 58; (refine HF.out.mono ?_); rintro e w2 ⟨rfl, hd⟩; have HD := Lib.hid hd; obtain ⟨g, cap, rfl, hc1, hc2, hg, c1, d5, hpl⟩ := HC.out w2 hd; clear hd))
    go_ret2
    exact ⟨rfl, H0.out.only0 HD.out⟩
/-- What is read of a connection that works. -/
structure GWk (w' : World) (p g i ln cap : Nat) (st born life : Int) : Prop where
  cap1 : ln ≤ cap
  cap2 : cap ≤ 9223372036854775807
  gl : g < w'.heap.size
  c1 : w'.cell? ⟨g, i * 5 + 1, none⟩ = some (.int .i64 st)
  c4 : w'.cell? ⟨g, i * 5 + 4, none⟩ = some (.int .i64 born)
  d5 : w'.cell? ⟨p, 5, none⟩ = some (.slice (some ⟨g, 0, none⟩) ln cap)
  d3 : w'.cell? ⟨p, 3, none⟩ = some (.int .i64 life)
  pl : p < w'.heap.size
theorem gwk (h : Gw w lo p P R vl vr vw) {i : Nat} (hil : i < P.l.length) : ∃ g cap, vl = .slice (some ⟨g, 0, none⟩) P.l.length cap ∧ ∀ w', Only (fun _ => False) w w' → GWk w' p g i P.l.length cap (((cnAt P.l i).st : Int) + 1) (cnAt P.l i).born P.life := by
  obtain ⟨g, cap, e, _⟩ := h.at_ hil
  refine ⟨g, cap, e, fun w' ho => ?_⟩
  obtain ⟨g', cap', e', a1, a2, a3, _, b1, _, _, b4, _⟩ := (h.only0 ho).at_ hil
  rw [e] at e'
  injection e' with e1 _ e3
  injection e1 with e1
  injection e1 with e1 _
  subst e1 e3
  exact ⟨a1, a2, a3, b1, b4, by rw [← e]; exact (h.only0 ho).blk.cell 5 _ rfl, (h.only0 ho).blk.cell 3 _ rfl, (h.only0 ho).blk.lt⟩
set_option maxRecDepth 100000 in
set_option maxHeartbeats 1600000 in
theorem gdone_cut (h : GQ F w0 w lo p P) {k : Nat} (hk : Okp P k) (hk9 : k < 9223372036854775807) (nn : Nat) (hnn : nn ≤ 4611686018427387904) (n : Int) (keep : Bool) {i : Nat} (ha : atI P n = some i) (hst : (cnAt P.l i).st = 1) (hkeep : keep = false ∨ later (cnAt P.l i).born P.life ≤ nn) :
    Calls Try.prog 41 #[ptr p, .int .i64 nn, .int .i64 n, .bool keep] w fun e w' => ∃ v, e = .returned (.tuple #[v, .int .i64 0]) ∧ GAcP F w0 w w' lo p (serve (cutI P i) nn).1 v (⟨5, n, -1⟩ :: (serve (cutI P i) nn).2) := by
  obtain ⟨i82, hi82, hz0, hz1, hz2⟩ := info_parts Try.info82
  have z82 := zero82
  have HM := Lib.hid (fun w => rmoment_ok nn w (by omega) (by omega))
  have hsz0 := h.size
  obtain ⟨R, ⟨Cs, hr⟩, vl, vr, vw, hp, hmv⟩ := h
  have hf := find_any hp n
  have hil := atI_lt ha
  rw [ha] at hf
  simp only [idxV] at hf
  obtain ⟨g, cap, hvl, hwk⟩ := gwk hp hil
  have hcut : ∀ w', Only (fun _ => False) w w' → Calls Try.prog 59 #[ptr p, .int .i64 n] w' fun e w'' => e = .returned (.tuple #[]) ∧ GP (gfoot p vl vr vw) w' w'' lo p (cutI P i) (rmv R n) ∧ Rel (cutI P i) (rmv R n) := fun w' ho => gcut_at (hp.only0 ho) hr hk ha
  have hborn := (hk.t _ (cnAt_mem hil)).2.1
  have hlife := hk.n.f.2
  obtain ⟨L, hL⟩ : ∃ L, L = later (cnAt P.l i).born P.life := ⟨_, rfl⟩
  have hlat : ∀ w, Calls Try.prog 61 #[.int .i64 (cnAt P.l i).born, .int .i64 P.life] w fun e w' => e = .returned (.int .i64 L) ∧ w = w' := fun w => by rw [hL]; exact glater_any _ _ w hborn hlife
  rw [← hL] at hkeep
  have HK := Lib.hid (cut_ok (i := i) hk)
  have HSL := Lib.hid (serve_len hnn (cut_ok (i := i) hk))
  have hw64 := hk.w64
  have hi64 : i ≤ 9223372036854775807 := by have := hk.l64; omega
  rw [hst, show (((1 : Nat) : Int) + 1) = 2 from rfl] at hwk
  generalize (cnAt P.l i).born = bo at hwk hlat
  generalize P.life = li at hwk hlat
  have hsl : (serve (cutI P i) nn).2.length ≤ 64 := by have := HSL.out; have h2 : (cutI P i).waits = P.waits := rfl; rw [h2] at this; omega
  obtain ⟨P1, hP1⟩ : ∃ P1, P1 = cutI P i := ⟨_, rfl⟩
  rw [← hP1] at HK hcut hsl ⊢
  obtain ⟨ln, hln⟩ : ∃ ln, ln = P.l.length := ⟨_, rfl⟩
  rw [← hln] at hwk hil
  have HLAT := Lib.hid hlat
  have HWK := Lib.hid hwk
  have HCUT := Lib.hid hcut
  have HF := Lib.hid hf
  have HP := Lib.hid hp
  have HV := Lib.hid hmv
  have h0i : ¬ ((i : Int) < 0) := by omega
  clear hp hmv hf ha hk hr hwk hcut hP1 hln hL hlat hborn hlife hst
  subst hvl
  go_enter Try.func41, Try.ntmps41
  go_upto_region 4 with (first
    | (go_at_call 16; (refine (HM.out _).mono ?_); rintro e w' ⟨rfl, rfl⟩)
    | (go_at_call 58; (refine HF.out.mono ?_); rintro e w2 ⟨rfl, hd⟩; have HD := Lib.hid hd; clear hd))
  obtain ⟨hcap1, hcap2, hg, c1, c4, d5, d3, hpl⟩ := HWK.out w2 HD.out
  go_upto_region 7 with fail
  have hfin : ∀ w3, Only (fun _ => False) w2 w3 → ∀ w4, GP (gfoot p (.slice (some ⟨g, 0, none⟩) P.l.length cap) vr vw) w3 w4 lo p P1 (rmv R n) → GP F w0 w4 lo p P1 (rmv R n) ∧ w.heap.size ≤ w4.heap.size := fun w3 ho w4 hc => by
    have hO := HD.out.trans ho (fun _ _ h => h)
    exact ⟨GP.then_ (HV.out.trans (Mv.of_only hO)) hc, Nat.le_trans hO.size hc.size⟩
  have HFIN := Lib.hid hfin
  clear hfin
  have hrest : ∀ (w3 : World), Only (fun _ => False) w2 w3 → Calls Try.prog 59 #[ptr p, .int .i64 n] w3 fun e w'' => e = .returned (.tuple #[]) ∧ (GP F w0 w'' lo p P1 (rmv R n) ∧ w.heap.size ≤ w''.heap.size) ∧ Rel P1 (rmv R n) := fun w3 ho => (HCUT.out w3 (HD.out.trans ho (fun _ _ h => h))).mono (by rintro e w4 ⟨rfl, hc, hrr⟩; exact ⟨rfl, HFIN.out w3 ho w4 hc, hrr⟩)
  have HREST := Lib.hid hrest
  clear hrest
  cases keep with
  | false =>
    clear hkeep
    go_quiet (fail)
    have hod : Only (fun _ => False) w2 (w2.drewN nq) := (Drawn.of w2 nq).only (fun _ => False)
    have HRST := Lib.hid (HREST.out _ hod)
    clear c1 c4 d5 d3 hpl hg hod
    generalize w2.drewN nq = w3 at HRST ⊢
    go_wp2_with (first
      | (go_at_call 59; (refine HRST.out.mono ?_); rintro e w4 ⟨rfl, ⟨hc, hs4⟩, hrr⟩; have HCC := Lib.hid hc; have HRR := Lib.hid hrr; clear hc hrr)
      | (at_builtin; refine wpList_append_row rfl (.tmp 77) (.tmp 80) 86 rfl w.heap.size 82 i82 _ 3 24 Try.underlying86 hi82 hz0 hz1 hz2 rfl (by decide) (.slice none 0 0) 0 [] rfl (World.ownsRow_nil _ _ _ _) (some ⟨w4.heap.size, 0, none⟩) 1 1 (acC ⟨5, n, -1⟩) rfl rfl (fun _ => ⟨_, rfl, cells_new _ _ _⟩) (fun e => by cases e) (fun u hu => ac_one [⟨5, n, -1⟩] u (by simpa [acCells] using hu)) (by unfold maxLen; omega) (by omega) (by simp only [World.size_alloc]; omega) ?_; intro v5 w5 hown5 hon5 _ _; have hon5' : Only (fun _ => False) w4 w5 := (((Only.refl (fun _ => False) w4).alloc (Obj.cells #[.int .i64 5, .int .i64 n, .int .i64 (-1)] 82)).trans hon5 (fun k hk e => by cases e)); have HC5 := Lib.hid (HCC.out.only0 hon5'); have hs5 := Nat.le_trans hs4 hon5'.size; have HROW := Lib.hid (show w5.ownsRow w.heap.size 82 3 v5 1 (acCells [⟨5, n, -1⟩]) from hown5); obtain ⟨a5, k5, rfl, _, _, _, _⟩ := ownsRow_slice hown5; clear hown5 hon5 hon5')
      | (go_at_call 60; (refine (gserve_keep HC5.out HRR.out HK.out hk9 nn hnn HROW.out).mono ?_); rintro e w6 ⟨v6, rfl, hs⟩; have HS := Lib.hid hs; obtain ⟨a6, k6, rfl, _, _, hn6, _⟩ := ownsRow_slice hs.row; have hsz6 := hs.sz; clear hs)
      | (at_builtin; refine wpList_append_row rfl (.tmp 82) (.tmp 85) 86 rfl w.heap.size 82 i82 _ 3 24 Try.underlying86 hi82 hz0 hz1 hz2 rfl (by decide) (.slice a5 1 k5) 1 (acCells [⟨5, n, -1⟩]) rfl HS.out.old a6 (serve P1 nn).2.length k6 (acCells (serve P1 nn).2) rfl (acCells_len _) (row_news HS.out.row rfl) hn6 (ac_one _) (by unfold maxLen; omega) (by omega) (by omega) ?_; intro v9 w9 hown9 hon9 _ _; have HO9 := Lib.hid (KeepP.app (o1 := [⟨5, n, -1⟩]) rfl HS.out hsz0 hown9 hon9); clear hown9 hon9))
    go_ret2
    exact ⟨_, rfl, HO9.out.1, HO9.out.2⟩
  | true =>
    have hln : L ≤ nn := hkeep.resolve_left (by decide)
    have f1 : decide ((nn : Int) < (L : Int)) = false := decide_eq_false (by omega)
    have f1n : decide (nn < L) = false := decide_eq_false (by omega)
    clear hkeep
    go_quiet ((go_at_call 61; refine (HLAT.out _).mono ?_; rintro e w' ⟨rfl, rfl⟩; exact ⟨rfl, _, rfl⟩))
    have hod : Only (fun _ => False) w2 (w2.drewN nq) := (Drawn.of w2 nq).only (fun _ => False)
    have HRST := Lib.hid (HREST.out _ hod)
    clear c1 c4 d5 d3 hpl hg hod
    generalize w2.drewN nq = w3 at HRST ⊢
    go_wp2_with (first
      | (go_at_call 59; (refine HRST.out.mono ?_); rintro e w4 ⟨rfl, ⟨hc, hs4⟩, hrr⟩; have HCC := Lib.hid hc; have HRR := Lib.hid hrr; clear hc hrr)
      | (at_builtin; refine wpList_append_row rfl (.tmp 77) (.tmp 80) 86 rfl w.heap.size 82 i82 _ 3 24 Try.underlying86 hi82 hz0 hz1 hz2 rfl (by decide) (.slice none 0 0) 0 [] rfl (World.ownsRow_nil _ _ _ _) (some ⟨w4.heap.size, 0, none⟩) 1 1 (acC ⟨5, n, -1⟩) rfl rfl (fun _ => ⟨_, rfl, cells_new _ _ _⟩) (fun e => by cases e) (fun u hu => ac_one [⟨5, n, -1⟩] u (by simpa [acCells] using hu)) (by unfold maxLen; omega) (by omega) (by simp only [World.size_alloc]; omega) ?_; intro v5 w5 hown5 hon5 _ _; have hon5' : Only (fun _ => False) w4 w5 := (((Only.refl (fun _ => False) w4).alloc (Obj.cells #[.int .i64 5, .int .i64 n, .int .i64 (-1)] 82)).trans hon5 (fun k hk e => by cases e)); have HC5 := Lib.hid (HCC.out.only0 hon5'); have hs5 := Nat.le_trans hs4 hon5'.size; have HROW := Lib.hid (show w5.ownsRow w.heap.size 82 3 v5 1 (acCells [⟨5, n, -1⟩]) from hown5); obtain ⟨a5, k5, rfl, _, _, _, _⟩ := ownsRow_slice hown5; clear hown5 hon5 hon5')
      | (go_at_call 60; (refine (gserve_keep HC5.out HRR.out HK.out hk9 nn hnn HROW.out).mono ?_); rintro e w6 ⟨v6, rfl, hs⟩; have HS := Lib.hid hs; obtain ⟨a6, k6, rfl, _, _, hn6, _⟩ := ownsRow_slice hs.row; have hsz6 := hs.sz; clear hs)
      | (at_builtin; refine wpList_append_row rfl (.tmp 82) (.tmp 85) 86 rfl w.heap.size 82 i82 _ 3 24 Try.underlying86 hi82 hz0 hz1 hz2 rfl (by decide) (.slice a5 1 k5) 1 (acCells [⟨5, n, -1⟩]) rfl HS.out.old a6 (serve P1 nn).2.length k6 (acCells (serve P1 nn).2) rfl (acCells_len _) (row_news HS.out.row rfl) hn6 (ac_one _) (by unfold maxLen; omega) (by omega) (by omega) ?_; intro v9 w9 hown9 hon9 _ _; have HO9 := Lib.hid (KeepP.app (o1 := [⟨5, n, -1⟩]) rfl HS.out hsz0 hown9 hon9); clear hown9 hon9))
    go_ret2
    exact ⟨_, rfl, HO9.out.1, HO9.out.2⟩
theorem Gw.restd (h : Gw w lo p P R vl vr vw) (x : Nat) : Gw w lo p { P with rested := x } R vl vr vw := ⟨h.blk, h.row, h.rr, h.wt, h.low, h.sep⟩
set_option maxRecDepth 100000 in
set_option maxHeartbeats 1600000 in
theorem gdone_keep (h : GQ F w0 w lo p P) {k : Nat} (hk : Okp P k) (hk9 : k + 1 < 9223372036854775807) (nn : Nat) (hnn : nn ≤ 4611686018427387904) (n : Int) {i : Nat} (ha : atI P n = some i) (hst : (cnAt P.l i).st = 1) (hkeep : ¬ later (cnAt P.l i).born P.life ≤ nn) :
    Calls Try.prog 41 #[ptr p, .int .i64 nn, .int .i64 n, .bool true] w fun e w' => ∃ v, e = .returned (.tuple #[v, .int .i64 0]) ∧ GAcP F w0 w w' lo p (serve (restI P i nn) nn).1 v (serve (restI P i nn) nn).2 := by
  obtain ⟨i82, hi82, hz0, hz1, hz2⟩ := info_parts Try.info82
  obtain ⟨i3, hi3, hy0, hy1, hy2⟩ := info_parts Try.info3
  have z82 := zero82
  have HM := Lib.hid (fun w => rmoment_ok nn w (by omega) (by omega))
  have hsz0 := h.size
  obtain ⟨R, ⟨Cs, hr⟩, vl, vr, vw, hp, hmv⟩ := h
  have hf := find_any hp n
  have hil := atI_lt ha
  have hnum := atI_num ha
  rw [ha] at hf
  simp only [idxV] at hf
  obtain ⟨g, cap, hvl, hwk⟩ := gwk hp hil
  have hborn := (hk.t _ (cnAt_mem hil)).2.1
  have hlife := hk.n.f.2
  obtain ⟨L, hL⟩ : ∃ L, L = later (cnAt P.l i).born P.life := ⟨_, rfl⟩
  have hlat : ∀ w, Calls Try.prog 61 #[.int .i64 (cnAt P.l i).born, .int .i64 P.life] w fun e w' => e = .returned (.int .i64 L) ∧ w = w' := fun w => by rw [hL]; exact glater_any _ _ w hborn hlife
  rw [← hL] at hkeep
  have hrok := rest_ok (now := nn) hk hil hnn
  have HK := Lib.hid hrok
  have hrl : R.length ≤ 64 := by rw [hr.len]; exact Nat.le_trans (show resting P.l ≤ P.l.length from List.length_filter_le _ _) hk.l64
  have hrel := hr.rest_ (now := nn) hil (by rw [hst]; decide)
  have hw64 := hk.w64
  have hi64 : i ≤ 9223372036854775807 := by have := hk.l64; omega
  have hsl : (serve (restI P i nn) nn).2.length ≤ 64 := by have := serve_len hnn hrok; have h2 : (restI P i nn).waits = P.waits := rfl; rw [h2] at this; omega
  obtain ⟨P1, hP1⟩ : ∃ P1, P1 = restI P i nn := ⟨_, rfl⟩
  rw [← hP1] at HK hsl hrel ⊢
  obtain ⟨c, hc⟩ : ∃ c, c = cnAt P.l i := ⟨_, rfl⟩
  have HCI := Lib.hid hc
  rw [← hc] at hst hwk hlat hnum hrel
  obtain ⟨num, st, cw, sn, bo, nth⟩ := c
  simp only at hst hwk hlat hnum hrel
  subst hst
  rw [show (((1 : Nat) : Int) + 1) = 2 from rfl] at hwk
  obtain ⟨li, hli⟩ : ∃ li, li = P.life := ⟨_, rfl⟩
  rw [← hli] at hwk hlat
  have HREL := Lib.hid hrel
  have HP1 := Lib.hid (show P1 = { P with rested := P.rested + 1, l := P.l.set i ⟨num, 2, cw, nn, bo, P.rested + 1⟩ } by rw [hP1]; unfold restI; rw [← hc])
  obtain ⟨ln, hln⟩ : ∃ ln, ln = P.l.length := ⟨_, rfl⟩
  have HLN := Lib.hid hln
  have HIL := Lib.hid hil
  rw [← hln] at hwk hil
  have HLAT := Lib.hid hlat
  have HWK := Lib.hid hwk
  have HF := Lib.hid hf
  have HP := Lib.hid hp
  have HV := Lib.hid hmv
  have HVL := Lib.hid hvl
  have h0i : ¬ ((i : Int) < 0) := by omega
  clear hp hmv hf ha hk hr hwk hP1 hln hL hlat hborn hlife hrok hrel hc hli
  subst hnum
  go_enter Try.func41, Try.ntmps41
  go_upto_region 4 with (first
    | (go_at_call 16; (refine (HM.out _).mono ?_); rintro e w' ⟨rfl, rfl⟩)
    | (go_at_call 58; (refine HF.out.mono ?_); rintro e w2 ⟨rfl, hd⟩; have HD := Lib.hid hd; clear hd))
  obtain ⟨hcap1, hcap2, hg, c1, c4, d5, d3, hpl⟩ := HWK.out w2 HD.out
  go_upto_region 7 with fail
  have f1 : decide ((nn : Int) < (L : Int)) = true := decide_eq_true (by omega)
  have f1n : decide (nn < L) = true := decide_eq_true (by omega)
  go_quiet ((go_at_call 61; refine (HLAT.out _).mono ?_; rintro e w' ⟨rfl, rfl⟩; exact ⟨rfl, _, rfl⟩))
  have HO3 := Lib.hid (HD.out.trans ((Drawn.of w2 nq).only (fun _ => False)) (fun _ _ h => h))
  clear c1 c4 d5 d3 hpl hg
  generalize w2.drewN nq = w3 at HO3 ⊢
  have h3 := HP.out.only0 HO3.out
  obtain ⟨hcap1, hcap2, hg, c1, c4, d5, d3, hpl⟩ := HWK.out w3 HO3.out
  obtain ⟨_, _, hv', _, _, _, _, _, _, c3, _, hfr⟩ := h3.at_ HIL.out
  rw [HVL.out] at hv'
  injection hv' with e1 _ e3
  injection e1 with e1
  injection e1 with e1 _
  subst e1 e3
  have fr1 := hfr (i * 5 + 1)
  have fr3 := hfr (i * 5 + 3)
  obtain ⟨g4, m4⟩ := h3.setC (j := 1) (c := ⟨num, 2, cw, sn, bo, nth⟩) (u := .int .i64 3) HVL.out HIL.out (by decide) (by rw [← HCI.out]; rfl)
  have hci4 : cnAt (P.l.set i ⟨num, 2, cw, sn, bo, nth⟩) i = ⟨num, 2, cw, sn, bo, nth⟩ := by
    rw [cnAt_eq (by rw [List.length_set]; exact HIL.out)]
    simp
  obtain ⟨g5, m5⟩ := g4.setC (j := 3) (c := ⟨num, 2, cw, nn, bo, P.rested + 1⟩) (u := .int .i64 nn) HVL.out (by show i < (P.l.set i _).length; rw [List.length_set]; exact HIL.out) (by decide) (by show _ = (gcC (cnAt (P.l.set i ⟨num, 2, cw, sn, bo, nth⟩) i)).set 3 _; rw [hci4]; rfl)
  have d5b : (w3.setCell ⟨g, i * 5 + 1, none⟩ (.int .i64 3)).cell? ⟨p, 5, none⟩ = some (.slice (some ⟨g, 0, none⟩) ln cap) := by
    have := g4.blk.cell 5 _ rfl
    rw [HVL.out, ← HLN.out] at this
    exact this
  have hpl4 := g4.blk.lt
  have g5' : Gw ((w3.setCell ⟨g, i * 5 + 1, none⟩ (.int .i64 3)).setCell ⟨g, i * 5 + 3, none⟩ (.int .i64 nn)) lo p P1 R vl vr vw := by
    have h := g5.restd (P.rested + 1)
    simp only [set_set] at h
    rw [HP1.out]
    exact h
  have HG5 := Lib.hid g5'
  have HM5 := Lib.hid (m4.trans m5)
  clear h3 g4 m4 g5 m5 g5' hci4 hfr
  go_upto_region 10 with fail
  generalize (w3.setCell ⟨g, i * 5 + 1, none⟩ (.int .i64 3)).setCell ⟨g, i * 5 + 3, none⟩ (.int .i64 nn) = w5 at HG5 HM5 ⊢
  clear c1 c3 c4 d5 d3 hpl hg fr1 fr3 d5b hpl4
  have d6 := HG5.out.blk.cell 6 _ rfl
  have hpl := HG5.out.blk.lt
  have hlo5 : lo ≤ w5.heap.size := by have := HG5.out.low; omega
  obtain ⟨ar, cr, rfl, hr1, hr2, _, _⟩ := ownsRow_slice HG5.out.rr
  obtain ⟨rl, hrl2⟩ : ∃ rl, rl = R.length := ⟨_, rfl⟩
  have HRL := Lib.hid hrl2
  rw [← hrl2] at d6 hr1 hrl
  have HROW := Lib.hid (show w5.ownsRow lo 3 1 (.slice ar rl cr) rl (ints (nints R)) by have := HG5.out.rr; rw [HRL.out]; exact this)
  clear hrl2
  go_upto_region 13 with (at_builtin; refine wpList_append_row rfl (.tmp 68) (.tmp 70) 51 rfl lo 3 i3 (.int .i64 0) 1 8 Try.underlying51 hi3 hy0 hy1 hy2 rfl (by decide) (.slice ar rl cr) rl (ints (nints R)) rfl (HROW.out.alloc _) (some ⟨w5.heap.size, 0, none⟩) 1 1 [.int .i64 num] rfl rfl (fun _ => ⟨_, rfl, new_one _ _ _⟩) (fun e => by cases e) (one_int _ _) (by unfold maxLen; omega) (by omega) (by simp only [World.size_alloc]; omega) ?_; intro v9 w9 hown9 hon9 hat9 _; obtain ⟨a9, k9, rfl, _, _, _, _⟩ := ownsRow_slice hown9; have HO9 := Lib.hid hown9; have HN9 := Lib.hid hon9; have HA9 := Lib.hid hat9; have hb9 := (HG5.out.blk.alloc (Obj.cells #[.int .i64 num] 3)).only hon9 (fun e => by have h := HG5.out.nr; rw [← HRL.out] at h; exact h e); have g7 := hb9.cell 6 _ rfl; have f7 := hb9.free 6; have hpl9 := hb9.lt; clear hown9 hon9 hat9 hb9)
  have hon : Only (fun k => (Value.slice ar R.length cr).ownBlock = some k) w5 w9 := by
    rw [← HRL.out]
    exact (((Only.refl (fun _ => False) w5).alloc (Obj.cells #[.int .i64 num] 3)).mono (fun _ _ h => h.elim)).trans HN9.out (fun _ _ h => h)
  have hst10 := HG5.out.setR (R' := R ++ [num]) hon (v := .slice a9 (rl + 1) k9) (by rw [List.length_append, List.length_singleton, nints_snoc, ints_append, ← HRL.out]; exact HO9.out) (fun k hk => by
    rw [← HRL.out]
    rcases HA9.out with e | e
    · exact .inl (by rw [← e]; exact hk)
    · rw [e] at hk; injection hk with hk; simp only [World.size_alloc] at hk; exact .inr (by omega))
  have HGP := Lib.hid (show GP F w0 (w9.setCell ⟨p, 6, none⟩ (.slice a9 (rl + 1) k9)) lo p P1 (R ++ [num]) from ⟨_, _, _, hst10.1, ((HV.out.trans (Mv.of_only HO3.out)).trans HM5.out).trans hst10.2⟩)
  have hszf : w.heap.size ≤ (w9.setCell ⟨p, 6, none⟩ (.slice a9 (rl + 1) k9)).heap.size := Nat.le_trans HO3.out.size (Nat.le_trans HM5.out.only.size hst10.2.only.size)
  clear g7 f7 hpl9 d6 hpl hon hst10
  generalize w9.setCell ⟨p, 6, none⟩ (.slice a9 (rl + 1) k9) = w10 at HGP hszf ⊢
  go_wp2_with (first
    | (go_at_call 60; (refine (gserve_keep HGP.out ⟨_, HREL.out⟩ HK.out hk9 nn hnn (World.ownsRow_nil w10 w.heap.size 82 3)).mono ?_); rintro e w6 ⟨v6, rfl, hs⟩; have HS := Lib.hid hs; obtain ⟨a6, k6, rfl, _, _, hn6, _⟩ := ownsRow_slice hs.row; have hsz6 := hs.sz; clear hs)
    | (at_builtin; refine wpList_append_row rfl (.tmp 82) (.tmp 85) 86 rfl w.heap.size 82 i82 _ 3 24 Try.underlying86 hi82 hz0 hz1 hz2 rfl (by decide) (.slice none 0 0) 0 (acCells []) rfl HS.out.old a6 (serve P1 nn).2.length k6 (acCells (serve P1 nn).2) rfl (acCells_len _) (row_news HS.out.row rfl) hn6 (ac_one _) (by unfold maxLen; omega) (by omega) (by omega) ?_; intro v9 w9 hown9 hon9 _ _; have HO9 := Lib.hid (KeepP.app (o1 := []) rfl HS.out hsz0 hown9 hon9); clear hown9 hon9))
  go_ret2
  exact ⟨_, rfl, HO9.out.1, HO9.out.2⟩
theorem gdone_any (h : GQ F w0 w lo p P) {k : Nat} (hk : Okp P k) (hk9 : k + 1 < 9223372036854775807) (now n : Int) (keep : Bool) :
    Calls Try.prog 41 #[ptr p, .int .i64 now, .int .i64 n, .bool keep] w fun e w' => ∃ v, e = .returned (.tuple #[v, .int .i64 (done P now n keep).2.2]) ∧ GAcP F w0 w w' lo p (done P now n keep).1 v (done P now n keep).2.1 := by
  unfold done
  by_cases hm : isMoment now
  · rw [if_neg (fun e => e hm)]
    have hno : (∀ i, atI P n = some i → (cnAt P.l i).st ≠ 1) → Calls Try.prog 41 #[ptr p, .int .i64 now, .int .i64 n, .bool keep] w fun e w' => ∃ v, e = .returned (.tuple #[v, .int .i64 6]) ∧ GAcP F w0 w w' lo p P v [] := fun hi =>
      (gdone_none h now n keep hm hi).mono (by rintro e w' ⟨rfl, hP⟩; exact ⟨_, rfl, GAcP.none hP⟩)
    cases ha : atI P n with
    | none => exact hno (fun i hi => by rw [ha] at hi; cases hi)
    | some i =>
      simp only
      by_cases hst : (cnAt P.l i).st = 1
      · rw [if_neg (fun e => e hst)]
        obtain ⟨nn, rfl⟩ : ∃ nn : Nat, now = nn := ⟨now.toNat, by have := hm.1; omega⟩
        have hnn : nn ≤ 4611686018427387904 := by have := hm.2; omega
        simp only [Int.toNat_natCast]
        by_cases hkp : keep = false ∨ later (cnAt P.l i).born P.life ≤ nn
        · rw [if_pos hkp]
          exact gdone_cut h hk (by omega) nn hnn n keep ha hst hkp
        · rw [if_neg hkp]
          have hkt : keep = true := by
            cases keep with
            | true => rfl
            | false => exact absurd (.inl rfl) hkp
          subst hkt
          exact gdone_keep h hk hk9 nn hnn n ha hst (fun e => hkp (.inr e))
      · rw [if_pos hst]
        exact hno (fun j hj => by rw [ha] at hj; injection hj with hj; rw [← hj]; exact hst)
  · rw [if_pos hm]
    have HM := Lib.hid (fun w => rmoment_bad now w (by unfold isMoment at hm; omega))
    have H := Lib.hid h
    clear h hk hm
    go_enter Try.func41, Try.ntmps41
    go_wp2_with (go_at_call 16; (refine (HM.out _).mono ?_); rintro e w' ⟨rfl, rfl⟩)
    go_ret2
    exact ⟨_, rfl, GAcP.none H.out⟩
end
end Go.Proofs.Ytmpcffkandmacaa
