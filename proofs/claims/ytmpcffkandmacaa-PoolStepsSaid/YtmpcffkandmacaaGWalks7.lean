/- The reference: Drop, Done. -/
import Derived.Test.YtmpcffkandmacaaGWalks6
namespace Go.Proofs.Ytmpcffkandmacaa
open Go.RowKit
set_option linter.unusedVariables false
set_option linter.unusedSimpArgs false

section
variable {F : Nat → Prop} {w0 w : World} {lo p : Nat} {P : Pp} {R : List Nat} {vl vr vw : Value} {Cs : List Cn}
theorem row_news {b e size n : Nat} {v : Value} {xs : List Value} (h : w.ownsRow b e size v n xs) {ao : Option Addr} {m cap : Nat} (hv : v = .slice ao m cap) : 0 < n → ∃ ad, ao = some ad ∧ ∀ j u, xs[j]? = some u → w.cell? (ad.add j) = some u := fun h0 => by
  obtain ⟨ao', cap', e, _, _, _, h4⟩ := ownsRow_slice h
  obtain ⟨g, e1, hg⟩ := h4 h0
  rw [hv] at e
  injection e with e2 _ _
  exact ⟨⟨g, 0, none⟩, e2.trans e1, fun j u hj => h.cells hg j u hj⟩
theorem row_one82 (w : World) (x : Ac) (lo : Nat) (hl : lo ≤ w.heap.size) : (w.alloc (Obj.cells #[.int .i64 x.kind, .int .i64 x.conn, .int .i64 x.who] 82)).ownsRow lo 82 3 (.slice (some ⟨w.heap.size, 0, none⟩) 1 1) 1 (acCells [x]) :=
  ownsRow_lower (World.ownsRow_lit w #[.int .i64 x.kind, .int .i64 x.conn, .int .i64 x.who] 1 (Nat.le_refl _) (by unfold maxLen; omega) rfl) hl
theorem GQ.only {S : Nat → Prop} {w' : World} (h : GQ F w0 w lo p P) (ho : Only S w w') (hS : ∀ k, S k → w0.heap.size ≤ k) (hd : ∀ R vl vr vw, Gw w lo p P R vl vr vw → ∀ k, gfoot p vl vr vw k → ¬ S k) : GQ F w0 w' lo p P := by
  obtain ⟨R, h1, h2⟩ := h
  exact ⟨R, h1, h2.only ho hS (hd R)⟩
theorem GQ.size (h : GQ F w0 w lo p P) : w0.heap.size ≤ w.heap.size := by
  obtain ⟨R, h1, h2⟩ := h
  exact h2.size
structure KeepP (F : Nat → Prop) (w0 w w' : World) (lo p : Nat) (P : Pp) (v' : Value) (o : List Ac) (b : Nat) (v : Value) (n : Nat) (xs : List Value) : Prop where
  pp : GQ F w0 w' lo p P
  row : w'.ownsRow w.heap.size 82 3 v' o.length (acCells o)
  old : w'.ownsRow b 82 3 v n xs
  sz : w.heap.size ≤ w'.heap.size
theorem gserve_keep (h : GP F w0 w lo p P R) (hrel : Rel P R) {k : Nat} (hk : Okp P k) (hk9 : k < 9223372036854775807) (now : Nat) (hnow : now ≤ 4611686018427387904) {b n : Nat} {v : Value} {xs : List Value} (hr : w.ownsRow b 82 3 v n xs) :
    Calls Try.prog 60 #[ptr p, .int .i64 now] w fun e w' => ∃ v', e = .returned v' ∧ KeepP F w0 w w' lo p (serve P now).1 v' (serve P now).2 b v n xs := by
  obtain ⟨vl, vr, vw, hp, hm⟩ := h
  refine (gserve_any (GP.refl hp) hrel hk hk9 now hnow).mono ?_
  rintro e w' ⟨v', rfl, ⟨R', h1, h2⟩, h3⟩
  exact ⟨v', rfl, ⟨R', h1, GP.then_ hm h2⟩, h3, GP.row27 hp h2 hr, h2.size⟩
/-- out = append(out, serve's...). -/
theorem KeepP.app {w1 w9 : World} {v' v v9 : Value} {o o1 : List Ac} {b n : Nat} (hn : n = o1.length) (h : KeepP F w0 w w1 lo p P v' o b v n (acCells o1)) (hb : w0.heap.size ≤ b) (hown : w9.ownsRow b 82 3 v9 (n + o.length) (acCells o1 ++ acCells o)) (hon : Only (fun k => v.ownBlock = some k) w1 w9) :
    GQ F w0 w9 lo p P ∧ w9.ownsRow b 82 3 v9 (o1 ++ o).length (acCells (o1 ++ o)) := by
  refine ⟨h.pp.only hon (fun k hk => Nat.le_trans hb (ownsRow_lt h.old k hk).1) (fun R vl vr vw hp k hk e => hp.row_ne h.old (by decide) (by decide) (by decide) k e hk), ?_⟩
  rw [List.length_append, acCells_append, ← hn]
  exact hown

set_option maxRecDepth 100000 in
set_option maxHeartbeats 800000 in
theorem gdrop_any (h : GQ F w0 w lo p P) {k : Nat} (hk : Okp P k) (hk9 : k < 9223372036854775807) (now who : Int) :
    Calls Try.prog 42 #[ptr p, .int .i64 now, .int .i64 who] w fun e w' => ∃ v, e = .returned (.tuple #[v, .int .i64 (drop P now who).2.2]) ∧ GAcP F w0 w w' lo p (drop P now who).1 v (drop P now who).2.1 := by
  obtain ⟨i82, hi82, hz0, hz1, hz2⟩ := info_parts Try.info82
  have z82 := zero82
  unfold drop
  by_cases hm : isMoment now
  · rw [if_neg (fun e => e hm)]
    obtain ⟨nn, rfl⟩ : ∃ nn : Nat, now = nn := ⟨now.toNat, by have := hm.1; omega⟩
    have hnn : nn ≤ 4611686018427387904 := by have := hm.2; omega
    have HM := Lib.hid (fun w => rmoment_ok nn w hm.1 hm.2)
    have HQ := Lib.hid h
    have hsz0 := h.size
    obtain ⟨R, ⟨Cs, hr⟩, vl, vr, vw, hp, hmv⟩ := h
    have hwa := gwaiting_any hp who
    simp only [Int.toNat_natCast]
    cases hi : P.waits.findIdx? (fun x => decide (x = who)) with
    | some i =>
      rw [hi] at hwa
      simp only [idxV] at hwa
      have HWA := Lib.hid hwa
      have hI := iRow_of hp.wt
      have HWO := Lib.hid (without_any hI (by have := hk.w64; omega) i)
      have d7 := hp.blk.cell 7 _ rfl
      have hpl := hp.blk.lt
      have HP := Lib.hid hp
      have HV := Lib.hid hmv
      have HK := Lib.hid (dropW_ok (i := i) hk)
      have HR := Lib.hid (Rel.waits ⟨Cs, hr⟩ (P.waits.eraseIdx i))
      have h0i : (0 : Int) ≤ (i : Int) := by omega
      clear hp hmv hwa hI hi hk hm hr
      simp only
      go_enter Try.func42, Try.ntmps42
      go_upto_region 6 with (first
        | (go_at_call 16; (refine (HM.out _).mono ?_); rintro e w' ⟨rfl, rfl⟩)
        | (go_at_call 56; (refine HWA.out.mono ?_); rintro e w' ⟨rfl, rfl⟩)
        | (go_at_call 62; (refine HWO.out.mono ?_); rintro e w10 ⟨v10, rfl, hrow, hO⟩; have hlo9 : lo ≤ w.heap.size := (Nat.le_trans HP.out.low (Nat.le_of_lt HP.out.blk.lt)); have hge : ∀ k, v10.ownBlock = some k → w.heap.size ≤ k := (fun k hk => (ownsRow_lt hrow k hk).1); have hst := HP.out.setW (l := P.waits.eraseIdx i) (hO.mono (fun _ _ h => h.elim)) (ownsRow_lower hrow hlo9) (fun k hk => .inr (hge k hk)); have h10 := HP.out.only0 hO; have e10 := h10.blk.cell 7 _ rfl; have f10 := h10.blk.free 7; have hpl10 := h10.blk.lt; have HST := Lib.hid hst; have HO10 := Lib.hid hO; obtain ⟨a10, k10, rfl, _, _, _, _⟩ := ownsRow_slice hrow; clear hst hrow hO hge h10))
      have HG := Lib.hid (show GP F w0 (w10.setCell ⟨p, 7, none⟩ (.slice a10 (P.waits.eraseIdx i).length k10)) lo p (dropW P i) R from ⟨_, _, _, HST.out.1, HV.out.trans HST.out.2⟩)
      have hsz := Nat.le_trans HO10.out.size (only_p w10 p 7 (.slice a10 (P.waits.eraseIdx i).length k10)).size
      clear e10 f10 hpl10 d7 hpl
      generalize w10.setCell ⟨p, 7, none⟩ (.slice a10 (P.waits.eraseIdx i).length k10) = w11 at HG hsz ⊢
      go_wp2_with (go_at_call 60; (refine (gserve_any HG.out HR.out HK.out hk9 nn hnn).mono ?_); rintro e w4 ⟨v4, rfl, hs⟩; have HS := Lib.hid hs; clear hs)
      go_ret2
      exact ⟨_, rfl, GAcP.of hsz HS.out⟩
    | none =>
      rw [hi] at hwa
      simp only [idxV] at hwa
      have HWA := Lib.hid hwa
      have hof := gof_any hp who
      simp only
      cases ho : ofI P who with
      | none =>
        rw [ho] at hof
        simp only [idxV] at hof
        have HOF := Lib.hid hof
        clear hp hmv hwa hi hk hm hr ho hof
        simp only
        go_enter Try.func42, Try.ntmps42
        go_wp2_with (first
          | (go_at_call 16; (refine (HM.out _).mono ?_); rintro e w' ⟨rfl, rfl⟩)
          | (go_at_call 56; (refine HWA.out.mono ?_); rintro e w' ⟨rfl, rfl⟩)
          | (go_at_call 55; (refine HOF.out.mono ?_); rintro e w2 ⟨rfl, hd⟩; have HD := Lib.hid hd; clear hd))
        go_ret2
        exact ⟨_, rfl, GAcP.none (HQ.out.only0 HD.out)⟩
      | some i =>
        simp only
        have hil := ofI_lt ho
        rw [ho] at hof
        simp only [idxV] at hof
        have HOF := Lib.hid hof
        have hcell : ∀ w', Only (fun _ => False) w w' → ∃ g cap, vl = .slice (some ⟨g, 0, none⟩) P.l.length cap ∧ P.l.length ≤ cap ∧ cap ≤ 9223372036854775807 ∧ g < w'.heap.size ∧ w'.cell? ⟨g, i * 5, none⟩ = some (.int .i64 (cnAt P.l i).num) ∧ w'.cell? ⟨p, 5, none⟩ = some vl ∧ p < w'.heap.size ∧ (Calls Try.prog 59 #[ptr p, .int .i64 (cnAt P.l i).num] w' fun e w'' => e = .returned (.tuple #[]) ∧ GP (gfoot p vl vr vw) w' w'' lo p (cutI P i) (rmv R (cnAt P.l i).num) ∧ Rel (cutI P i) (rmv R (cnAt P.l i).num)) := fun w' ho' => by
          obtain ⟨g, cap, e, a1, a2, a3, b0, _⟩ := (hp.only0 ho').at_ hil
          exact ⟨g, cap, e, a1, a2, a3, b0, (hp.only0 ho').blk.cell 5 _ rfl, (hp.only0 ho').blk.lt, gcut_at (hp.only0 ho') hr hk (hr.at_ hil)⟩
        have HK := Lib.hid (cut_ok (i := i) hk)
        have HSL := Lib.hid (fun (m : Nat) (hm : m ≤ 4611686018427387904) => serve_len hm (cut_ok (i := i) hk))
        have hw64 := hk.w64
        obtain ⟨P1, hP1⟩ : ∃ P1, P1 = cutI P i := ⟨_, rfl⟩
        have hws : P1.waits = P.waits := by rw [hP1]; rfl
        rw [← hP1] at HK hcell HSL ⊢
        obtain ⟨nu, hnu⟩ : ∃ nu, nu = (cnAt P.l i).num := ⟨_, rfl⟩
        rw [← hnu] at hcell ⊢
        obtain ⟨ln, hln⟩ : ∃ ln, ln = P.l.length := ⟨_, rfl⟩
        rw [← hln] at hcell hil
        have hi64 : i ≤ 9223372036854775807 := by have := hk.l64; omega
        have HC := Lib.hid hcell
        have HP := Lib.hid hp
        have HV := Lib.hid hmv
        have hsl : (serve P1 nn).2.length ≤ 64 := by have := HSL.out nn hnn; rw [hws] at this; omega
        have h0i : ¬ ((i : Int) < 0) := by omega
        clear hp hmv hwa hi hk hm hr ho hof hcell hP1 hnu hln hws
        go_enter Try.func42, Try.ntmps42
        go_upto_region 10 with (first
          | (go_at_call 16; (refine (HM.out _).mono ?_); rintro e w' ⟨rfl, rfl⟩)
          | (go_at_call 56; (refine HWA.out.mono ?_); rintro e w' ⟨rfl, rfl⟩)
          | (go_at_call 55; (refine HOF.out.mono ?_); rintro e w2 ⟨rfl, hd⟩; have HD := Lib.hid hd; clear hd))
        obtain ⟨g, cap, rfl, hc1, hc2, hg, k0, d5, hpl, _⟩ := HC.out w2 HD.out
        go_upto_region 11 with fail
        have ho3 : Only (fun _ => False) w2 (w2.alloc (Obj.cells #[.int .i64 5, .int .i64 nu, .int .i64 who] 82)) := (Only.refl _ _).alloc _
        have HROW := Lib.hid (row_one82 w2 ⟨5, nu, who⟩ w.heap.size HD.out.size)
        have HO3 := Lib.hid (HD.out.trans ho3 (fun _ _ h => h))
        obtain ⟨q, hq⟩ : ∃ q, q = w2.heap.size := ⟨_, rfl⟩
        rw [← hq] at HROW ⊢
        clear k0 d5 hpl hg hq ho3
        generalize w2.alloc (Obj.cells #[.int .i64 5, .int .i64 nu, .int .i64 who] 82) = w3 at HROW HO3 ⊢
        obtain ⟨g', cap', e, _, _, hg, k0, d5, hpl, hcut⟩ := HC.out w3 HO3.out
        injection e with e1 _ e3
        injection e1 with e1
        injection e1 with e1 _
        subst e1 e3
        have HCUT := Lib.hid hcut
        have HP3 := Lib.hid (HP.out.only0 HO3.out)
        clear hcut
        go_wp2_with (first
          | (go_at_call 59; (refine HCUT.out.mono ?_); rintro e w4 ⟨rfl, hc, hrr⟩; have HROW4 := Lib.hid (GP.row27 HP3.out hc HROW.out); have hsz4 := Nat.le_trans HO3.out.size hc.size; have HCC := Lib.hid (GP.then_ (HV.out.trans (Mv.of_only HO3.out)) hc); have HRR := Lib.hid hrr; clear hc hrr)
          | (go_at_call 60; (refine (gserve_keep HCC.out HRR.out HK.out hk9 nn hnn HROW4.out).mono ?_); rintro e w5 ⟨v5, rfl, hs⟩; have HS := Lib.hid hs; obtain ⟨a5, k5, rfl, _, _, hn5, _⟩ := ownsRow_slice hs.row; have hsz5 := hs.sz; clear hs)
          | (at_builtin; refine wpList_append_row rfl (.tmp 57) (.tmp 60) 86 rfl w.heap.size 82 i82 _ 3 24 Try.underlying86 hi82 hz0 hz1 hz2 rfl (by decide) (.slice (some ⟨q, 0, none⟩) 1 1) 1 (acCells [⟨5, nu, who⟩]) rfl HS.out.old a5 (serve P1 nn).2.length k5 (acCells (serve P1 nn).2) rfl (acCells_len _) (row_news HS.out.row rfl) hn5 (ac_one _) (by unfold maxLen; omega) (by omega) (by omega) ?_; intro v9 w9 hown9 hon9 _ _; have HO9 := Lib.hid (KeepP.app (o1 := [⟨5, nu, who⟩]) rfl HS.out hsz0 hown9 hon9); clear hown9 hon9))
        go_ret2
        exact ⟨_, rfl, HO9.out.1, HO9.out.2⟩
  · rw [if_pos hm]
    have HM := Lib.hid (fun w => rmoment_bad now w (by unfold isMoment at hm; omega))
    have H := Lib.hid h
    clear h hk hm
    go_enter Try.func42, Try.ntmps42
    go_wp2_with (go_at_call 16; (refine (HM.out _).mono ?_); rintro e w' ⟨rfl, rfl⟩)
    go_ret2
    exact ⟨_, rfl, GAcP.none H.out⟩
end
end Go.Proofs.Ytmpcffkandmacaa
