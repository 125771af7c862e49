/- The reference: give. -/
import Derived.Test.YtmpcffkandmacaaRel
namespace Go.Proofs.Ytmpcffkandmacaa
open Go.RowKit
set_option linter.unusedVariables false
set_option linter.unusedSimpArgs false

section
variable {F : Nat → Prop} {w0 w : World} {lo p : Nat} {P : Pp} {R : List Nat} {vl vr vw : Value} {Cs : List Cn}
/-- The answer's cell, and the reference's pool beside it. -/
structure GI (F : Nat → Prop) (w0 w : World) (lo p : Nat) (P : Pp) (R : List Nat) (q : Nat) : Prop where
  blk : ∃ a b c : Value, Blk w q [a, b, c] 82
  ge : w0.heap.size ≤ q
  pp : GP F w0 w lo p P R
theorem GI.new (h : GP F w0 w lo p P R) : GI F w0 (w.alloc (Obj.cells #[.int .i64 0, .int .i64 0, .int .i64 0] 82)) lo p P R w.heap.size :=
  ⟨⟨_, _, _, Blk.new w [.int .i64 0, .int .i64 0, .int .i64 0] 82⟩, h.size, h.only0 ((Only.refl _ _).alloc _)⟩
theorem GI.only0 {q : Nat} {w' : World} (h : GI F w0 w lo p P R q) (ho : Only (fun _ => False) w w') : GI F w0 w' lo p P R q := by
  obtain ⟨⟨a, b, c, hb⟩, h2, h3⟩ := h
  exact ⟨⟨a, b, c, hb.only ho (fun h => h)⟩, h2, h3.only0 ho⟩
theorem GI.cells {q : Nat} (h : GI F w0 w lo p P R q) : ∃ a b c : Value, w.cell? ⟨q, 0, none⟩ = some a ∧ w.cell? ⟨q, 1, none⟩ = some b ∧ w.cell? ⟨q, 2, none⟩ = some c ∧ w.frozen? ⟨q, 0, none⟩ = false ∧ w.frozen? ⟨q, 1, none⟩ = false ∧ w.frozen? ⟨q, 2, none⟩ = false ∧ q < w.heap.size := by
  obtain ⟨⟨a, b, c, hb⟩, _, _⟩ := h
  exact ⟨a, b, c, hb.cell 0 _ rfl, hb.cell 1 _ rfl, hb.cell 2 _ rfl, hb.free 0, hb.free 1, hb.free 2, hb.lt⟩
theorem GI.lay {q : Nat} (h : GI F w0 w lo p P R q) (x y z : Value) : ∃ w5, w5 = ((w.setCell ⟨q, 0, none⟩ x).setCell ⟨q, 1, none⟩ y).setCell ⟨q, 2, none⟩ z ∧ w5.cell? ⟨q, 0, none⟩ = some x ∧ w5.cell? ⟨q, 1, none⟩ = some y ∧ w5.cell? ⟨q, 2, none⟩ = some z ∧ q < w5.heap.size ∧ GP F w0 w5 lo p P R := by
  obtain ⟨⟨a, b, c, hb⟩, h2, h3⟩ := h
  have h5 := blk_st3 hb x y z
  refine ⟨_, rfl, h5.cell 0 _ rfl, h5.cell 1 _ rfl, h5.cell 2 _ rfl, h5.lt, h3.only (only_st3 w q x y z) (fun k hk => by rw [hk]; exact h2) (fun vl vr vw hp k hk e => by subst e; exact hp.not_ hb (by decide) (by decide) (by decide) hk)⟩
theorem GI.mv {q : Nat} {w' : World} {P' : Pp} {R' : List Nat} {vl' vr' vw' : Value} (h : GI F w0 w lo p P R q) (hp : Gw w lo p P R vl vr vw) (hm : Mv F (gfoot p vl vr vw) w0 w) (hp' : Gw w' lo p P' R' vl' vr' vw') (hm' : Mv (gfoot p vl vr vw) (gfoot p vl' vr' vw') w w') : GI F w0 w' lo p P' R' q := by
  obtain ⟨⟨a, b, c, hb⟩, h2, h3⟩ := h
  exact ⟨⟨a, b, c, hb.only hm'.only (hp.not_ hb (by decide) (by decide) (by decide))⟩, h2, _, _, _, hp', hm.trans hm'⟩
theorem GI.then_ {q : Nat} {w' : World} {P' : Pp} {R' : List Nat} (h : GI F w0 w lo p P R q) (hp : Gw w lo p P R vl vr vw) (hm : Mv F (gfoot p vl vr vw) w0 w) (k : GP (gfoot p vl vr vw) w w' lo p P' R') : GI F w0 w' lo p P' R' q := by
  obtain ⟨a, b, c, hp', hm'⟩ := k
  exact h.mv hp hm hp' hm'

/-- What the search goes through at one of those that rest. -/
theorem give_look (h : Gw w lo p P R vl vr vw) (hr : RelC P R Cs) {k : Nat} (hk : Okp P k) {m : Nat} (hm : m < Cs.length) : ∃ i, i < P.l.length ∧ cnAt P.l i = Cs[m] ∧ (∀ w', Only (fun _ => False) w w' → Calls Try.prog 58 #[ptr p, .int .i64 (Cs[m]).num] w' fun e w'' => e = .returned (.int .i64 i) ∧ Only (fun _ => False) w' w'')
    ∧ (∀ w', Only (fun _ => False) w w' → Calls Try.prog 45 #[ptr p, gcV Cs[m]] w' fun e w'' => e = .returned (.int .i64 (endC P Cs[m])) ∧ Only (fun _ => False) w' w'') ∧ (Cs[m]).st = 2 := by
  have hmm := (hr.mem Cs[m]).1 (List.getElem_mem hm)
  obtain ⟨i, hi, he⟩ := List.getElem_of_mem hmm.1
  have he' : cnAt P.l i = Cs[m] := by rw [cnAt_eq hi, he]
  have hat := hr.at_ hi
  rw [he'] at hat
  have ht := hk.t _ hmm.1
  refine ⟨i, hi, he', fun w' ho => ?_, fun w' ho => gend_any (h.only0 ho) hk.n _ ht.1 ht.2.1, hmm.2⟩
  have := find_any (h.only0 ho) (Cs[m]).num
  rw [hat] at this
  exact this
set_option maxRecDepth 100000 in
set_option maxHeartbeats 400000 in
theorem ggive_any (h : Gw w lo p P R vl vr vw) (hr : RelC P R Cs) {k : Nat} (hk : Okp P k) (hk9 : k < 9223372036854775807) (now : Nat) (who : Int) :
    Calls Try.prog 57 #[ptr p, .int .i64 now, .int .i64 who] w fun e w' => e = .returned (gvV (give P now who).2) ∧ ∃ R', Rel (give P now who).1 R' ∧ GP (gfoot p vl vr vw) w w' lo p (give P now who).1 R' := by
  have z82 := zero82
  have z97 := zero97
  obtain ⟨i97, hi97, hz0, hz1, hz2⟩ := info_parts Try.info97
  obtain ⟨n, hn⟩ : ∃ n, n = Cs.length := ⟨_, rfl⟩
  have hRl : R.length = n := by rw [hr.r, List.length_map, hn]
  have hn64 : n ≤ 64 := by rw [← hRl, hr.len]; exact Nat.le_trans (show resting P.l ≤ P.l.length from List.length_filter_le _ _) hk.l64
  have hA := GI.new (GP.refl h)
  have H := Lib.hid h
  have HR := Lib.hid hr
  have HK := Lib.hid hk
  have HN := Lib.hid hn
  have HRL := Lib.hid hRl
  obtain ⟨res, hres⟩ : ∃ res, res = give P now who := ⟨_, rfl⟩
  rw [← hres]
  have HRES := Lib.hid hres
  have ho1 : Only (fun _ => False) w (w.alloc (Obj.cells #[.int .i64 0, .int .i64 0, .int .i64 0] 82)) := (Only.refl _ _).alloc _
  clear h hr hk hn hRl hres
  go_enter Try.func57, Try.ntmps57
  go_upto_region 1 with fail
  obtain ⟨q, hq⟩ : ∃ q, q = w.heap.size := ⟨_, rfl⟩
  rw [← hq] at hA ⊢
  clear hq
  generalize w.alloc (Obj.cells #[.int .i64 0, .int .i64 0, .int .i64 0] 82) = w1 at hA ho1 ⊢
  have HA := Lib.hid hA
  have HO1 := Lib.hid ho1
  have h1 := H.out.only0 ho1
  have hI := iRow_of (l := nints R) (by rw [nints_len]; exact h1.rr)
  obtain ⟨ar, cr, hv, hr1, hr2, _⟩ := id hI
  rw [nints_len] at hv hr1
  rw [HRL.out] at hv hr1
  subst hv
  obtain ⟨_, _, _, _, _, d6, _, hpl⟩ := h1.cells
  have H1 := Lib.hid h1
  clear hA ho1 h1 hI
  go_upto_region 2 with fail
  clear d6 hpl
  go_loopw [8, 9, 10] (fun z _ _ wr => ∃ m : Nat, m ≤ n ∧ z = .int .i64 ((m : Int) - 1) ∧ Only (fun _ => False) w1 wr ∧ ∀ k' (hk' : k' < Cs.length), m ≤ k' → ¬ now < endC P Cs[k']) (fun z _ _ _ => (intOf z + 1).toNat)
  case atStart => exact ⟨n, Nat.le_refl _, rfl, Only.refl _ _, fun k' hk' hle => absurd hk' (by have := HN.out; omega)⟩
  case round =>
    obtain ⟨m, hm, rfl, hO, hF⟩ := hrel
    have HO := Lib.hid hO
    have HF := Lib.hid hF
    have H2 := Lib.hid (H1.out.only0 hO)
    have HA2 := Lib.hid (HA.out.only0 hO)
    clear hF hO
    cases m with
    | zero =>
      rw [show (((0 : Nat) : Int) - 1) = -1 from rfl]
      have hbn := HR.out.none_ (now := now) (fun k' hk' => HF.out k' hk' (Nat.zero_le _))
      have h2 := H2.out
      obtain ⟨al, cl, rfl, hl1, hl2, _, _⟩ := ownsRow_slice h2.row
      have hcl : cl ≤ 9223372036854775807 := by unfold maxLen at hl2; omega
      obtain ⟨ln, hln⟩ : ∃ ln, ln = P.l.length := ⟨_, rfl⟩
      obtain ⟨d0, _, _, d4, d5, _, _, hpl⟩ := h2.cells
      rw [← hln] at hl1 d5
      have HLN := Lib.hid hln
      obtain ⟨cp, hcp⟩ : ∃ cp, cp = P.cap := ⟨_, rfl⟩
      rw [← hcp] at d0
      have HCP := Lib.hid hcp
      have hcp64 : cp ≤ 64 := by rw [hcp]; exact HK.out.n.c.2
      have HO12 := Lib.hid (HO1.out.trans HO.out (fun _ _ h => h))
      clear h2 hln hcp hl2
      by_cases hc : cp ≤ ln
      · have f1 : decide ((cp : Int) ≤ (ln : Int)) = true := decide_eq_true (by omega)
        have f1n : decide (cp ≤ ln) = true := decide_eq_true hc
        have hgive : res = (P, none) := by
          rw [HRES.out]
          unfold give
          rw [hbn]
          simp only
          rw [if_pos (by rw [← HLN.out, ← HCP.out]; exact hc)]
        have HGV := Lib.hid hgive
        clear hgive hbn
        go_upto_region 11 with fail
        go_quiet (fail)
        have HA3 := Lib.hid (HA2.out.only0 ((Drawn.of wr nq).only (fun _ => False)))
        clear d0 d4 d5 hpl
        generalize wr.drewN nq = w3 at HA3 ⊢
        obtain ⟨x0, x1, x2, g0, g1, g2, b0, b1, b2, hql⟩ := HA3.out.cells
        go_wp2_with fail
        obtain ⟨w8, hw8, r0, r1, r2, hl8, h8⟩ := HA3.out.lay (.int .i64 0) (.int .i64 0) (.int .i64 0)
        rw [← hw8]
        clear hw8 g0 g1 g2 b0 b1 b2
        (try simp only [Exit.inBlock, Exit.then])
        refine bodyPost_ret (v := .tuple #[.agg #[.int .i64 0, .int .i64 0, .int .i64 0], .bool false]) (by simp [results, Try.results57, go_sem, r0, r1, r2]) rfl ?_
        refine ⟨by rw [HGV.out]; rfl, R, ?_, ?_⟩
        · rw [HGV.out]; exact ⟨_, HR.out⟩
        · rw [HGV.out]; exact h8
      · have f1 : decide ((cp : Int) ≤ (ln : Int)) = false := decide_eq_false (by omega)
        have f1n : decide (cp ≤ ln) = false := decide_eq_false hc
        obtain ⟨P2, hP2⟩ : ∃ P2 : Pp, P2 = { P with next := P.next + 1, l := P.l ++ [⟨P.next, 0, who, 0, now, 0⟩] } := ⟨_, rfl⟩
        obtain ⟨nx, hnx⟩ : ∃ nx, nx = P.next := ⟨_, rfl⟩
        have hx9 : nx < 9223372036854775807 := by have := HK.out.x; omega
        have hgive : res = (P2, some ⟨1, nx, who⟩) := by
          rw [HRES.out, hP2, hnx]
          unfold give
          rw [hbn]
          simp only
          rw [if_neg (by rw [← HLN.out, ← HCP.out]; exact hc)]
        have HGV := Lib.hid hgive
        have hrel := HR.out.new_ who now
        rw [← hP2] at hrel
        have HREL := Lib.hid hrel
        have HP2 := Lib.hid hP2
        rw [← hnx] at d4
        have HNX := Lib.hid hnx
        clear hgive hbn hrel hP2 hnx
        go_upto_region 11 with fail
        go_quiet (fail)
        have hod : Only (fun _ => False) wr (wr.drewN nq) := (Drawn.of wr nq).only (fun _ => False)
        have h3 := H2.out.only0 hod
        have HA3 := Lib.hid (HA2.out.only0 hod)
        have HO13 := Lib.hid (HO12.out.trans hod (fun _ _ h => h))
        clear d0 d4 d5 hpl hod
        generalize wr.drewN nq = w3 at HA3 h3 HO13 ⊢
        have d4 : w3.cell? ⟨p, 4, none⟩ = some (.int .i64 nx) := by rw [HNX.out]; exact h3.blk.cell 4 _ rfl
        have f4 := h3.blk.free 4
        have hpl := h3.blk.lt
        have h4 := h3.setF (P' := { P with next := P.next + 1 }) (i := 4) (u := .int .i64 ((nx : Int) + 1)) (by rw [HNX.out]; rfl) rfl rfl
        have hop := only_p w3 p 4 (.int .i64 ((nx : Int) + 1))
        have H3 := Lib.hid h3
        have H4 := Lib.hid h4
        have HM4 := Lib.hid (show Mv (gfoot p (.slice al P.l.length cl) (.slice ar n cr) vw) (gfoot p (.slice al P.l.length cl) (.slice ar n cr) vw) w3 (w3.setCell ⟨p, 4, none⟩ (.int .i64 ((nx : Int) + 1))) from ⟨hop.mono (fun k _ e => .inl e), fun k hk => .inl hk⟩)
        clear h3 h4 hop
        go_upto_region 15 with fail
        generalize w3.setCell ⟨p, 4, none⟩ (.int .i64 ((nx : Int) + 1)) = w4 at H4 HM4 ⊢
        clear d4 f4 hpl
        have d5 : w4.cell? ⟨p, 5, none⟩ = some (.slice al ln cl) := by rw [HLN.out]; exact H4.out.blk.cell 5 _ rfl
        have hpl := H4.out.blk.lt
        have hlo4 : lo ≤ w4.heap.size := by have := H4.out.low; omega
        have HROW := Lib.hid (show w4.ownsRow lo 97 5 (.slice al ln cl) ln (gCells P.l) by have := H4.out.row; rw [HLN.out]; exact this)
        have hln64 : ln < 64 := by omega
        have z97b := zero97
        go_upto_region 16 with (at_builtin; refine wpList_append_row rfl (.tmp 98) (.tmp 103) 58 rfl lo 97 i97 _ 5 40 Try.underlying58 hi97 hz0 hz1 hz2 rfl (by decide) (.slice al ln cl) ln (gCells P.l) rfl (HROW.out.alloc _) (some ⟨w4.heap.size, 0, none⟩) 1 1 (gcC ⟨nx, 0, who, 0, now, 0⟩) rfl rfl (fun _ => ⟨_, rfl, cells_new _ _ _⟩) (fun e => by cases e) (fun u hu => gc_one [⟨nx, 0, who, 0, now, 0⟩] u (by simpa [gCells] using hu)) (by unfold maxLen; omega) (by omega) (by simp only [World.size_alloc]; omega) ?_; intro v9 w9 hown9 hon9 hat9 _; obtain ⟨a9, k9, rfl, _, _, _, _⟩ := ownsRow_slice hown9; have hb9 := (H4.out.blk.alloc (Obj.cells #[.int .i64 nx, .int .i64 1, .int .i64 who, .int .i64 0, .int .i64 now] 97)).only hon9 (fun e => by have h := H4.out.nl; rw [← HLN.out] at h; exact h e); have e6 := hb9.cell 5 _ rfl; have g6 := hb9.free 5; have hpl9 := hb9.lt; have HO9 := Lib.hid hown9; have HN9 := Lib.hid hon9; have HA9 := Lib.hid hat9; clear hown9 hon9 hat9 hb9)
        have hon : Only (fun k => (Value.slice al P.l.length cl).ownBlock = some k) w4 w9 := by
          rw [← HLN.out]
          exact (((Only.refl (fun _ => False) w4).alloc (Obj.cells #[.int .i64 nx, .int .i64 1, .int .i64 who, .int .i64 0, .int .i64 now] 97)).mono (fun _ _ h => h.elim)).trans HN9.out (fun _ _ h => h)
        obtain ⟨h10, m10⟩ := H4.out.setL (l := P.l ++ [⟨nx, 0, who, 0, now, 0⟩]) hon (v := .slice a9 (ln + 1) k9) (by rw [List.length_append, List.length_singleton, gCells_append, ← HLN.out]; simpa [gCells] using HO9.out) (fun k hk => by
          rw [← HLN.out]
          rcases HA9.out with e | e
          · exact .inl (by rw [← e]; exact hk)
          · rw [e] at hk; injection hk with hk; simp only [World.size_alloc] at hk; exact .inr (by omega))
        have hP : ({ ({ P with next := P.next + 1 } : Pp) with l := P.l ++ [⟨nx, 0, who, 0, now, 0⟩] } : Pp) = P2 := by rw [HP2.out, HNX.out]
        have h10' : Gw (w9.setCell ⟨p, 5, none⟩ (.slice a9 (ln + 1) k9)) lo p P2 R (.slice a9 (ln + 1) k9) (.slice ar n cr) vw := by rw [← hP]; exact h10
        have HA10 := Lib.hid (HA3.out.mv H3.out (Mv.of_only HO13.out) h10' (HM4.out.trans m10))
        clear e6 g6 hpl9 d5 hpl hP h10 h10' m10 hon
        generalize w9.setCell ⟨p, 5, none⟩ (.slice a9 (ln + 1) k9) = w10 at HA10 ⊢
        obtain ⟨x0, x1, x2, g0, g1, g2, b0, b1, b2, hql⟩ := HA10.out.cells
        go_wp2_with fail
        obtain ⟨w8, hw8, r0, r1, r2, hl8, h8⟩ := HA10.out.lay (.int .i64 1) (.int .i64 nx) (.int .i64 who)
        rw [← hw8]
        clear hw8 g0 g1 g2 b0 b1 b2
        (try simp only [Exit.inBlock, Exit.then])
        refine bodyPost_ret (v := .tuple #[.agg #[.int .i64 1, .int .i64 nx, .int .i64 who], .bool true]) (by simp [results, Try.results57, go_sem, r0, r1, r2]) rfl ?_
        refine ⟨by rw [HGV.out]; rfl, R, ?_, ?_⟩
        · rw [HGV.out]; exact ⟨_, HREL.out⟩
        · rw [HGV.out]; exact h8
    | succ m =>
      rw [show (((m + 1 : Nat) : Int) - 1) = (m : Int) by omega]
      have hmc : m < Cs.length := by have := HN.out; omega
      obtain ⟨i, hil, hci, hfind, hend, hst2⟩ := give_look H2.out HR.out HK.out hmc
      obtain ⟨c, hc⟩ : ∃ c, c = Cs[m] := ⟨_, rfl⟩
      rw [← hc] at hci hfind hend hst2
      obtain ⟨num, st, cw, sn, bo, nth⟩ := c
      simp only at hst2
      subst hst2
      change ∀ w', Only (fun _ => False) wr w' → Calls Try.prog 45 #[ptr p, .agg #[.int .i64 num, .int .i64 3, .int .i64 cw, .int .i64 sn, .int .i64 bo]] w' (fun e w'' => e = .returned (.int .i64 (endC P ⟨num, 2, cw, sn, bo, nth⟩)) ∧ Only (fun _ => False) w' w'') at hend
      simp only at hfind
      have hrow := H2.out.rr
      have hcell : ∃ g, ar = some ⟨g, 0, none⟩ ∧ g < wr.heap.size ∧ wr.cell? ⟨g, m, none⟩ = some (.int .i64 num) := by
        have hI := iRow_of (l := nints R) (by rw [nints_len]; exact hrow)
        obtain ⟨g, a1, a2, a3⟩ := hI.at_ rfl (i := m) (by rw [nints_len, HRL.out]; omega)
        refine ⟨g, a1, a2, ?_⟩
        rw [a3, nints_getD (by rw [HRL.out]; omega)]
        congr 2
        simp only [HR.out.r, List.getElem_map, ← hc]
      obtain ⟨g, rfl, hg, c0⟩ := hcell
      obtain ⟨_, _, _, _, d5, d6, _, hpl⟩ := H2.out.cells
      have HFI := Lib.hid hfind
      have HEN := Lib.hid hend
      have HC := Lib.hid hc
      have HCI := Lib.hid hci
      have HIL := Lib.hid hil
      have hil64 : i < 64 := by have := HK.out.l64; omega
      clear hfind hend hrow hc hci hil
      go_upto_region 5 with (go_at_call 58; (refine (HFI.out wr (Only.refl _ _)).mono ?_); rintro e w3 ⟨rfl, hO3⟩; have HO3 := Lib.hid hO3; clear hO3)
      clear c0 d5 d6 hpl hg
      have h3 := H2.out.only0 HO3.out
      obtain ⟨gl, cl, hvl, hcl1, hcl2, hgl, e0, e1, e2, e3, e4, hfr⟩ := h3.at_ HIL.out
      rw [HCI.out] at e0 e1 e2 e3 e4
      simp only at e0 e1 e2 e3 e4
      rw [show (((2 : Nat) : Int) + 1) = 3 from rfl] at e1
      obtain ⟨_, _, _, _, d5, _, _, hpl⟩ := h3.cells
      subst hvl
      obtain ⟨ln, hln⟩ : ∃ ln, ln = P.l.length := ⟨_, rfl⟩
      rw [← hln] at hcl1 d5
      have HLN := Lib.hid hln
      have hiln : i < ln := by have := HIL.out; omega
      obtain ⟨en, hen⟩ : ∃ en, en = endC P ⟨num, 2, cw, sn, bo, nth⟩ := ⟨_, rfl⟩
      rw [← hen] at HEN
      have HENE := Lib.hid hen
      have HH3 := Lib.hid h3
      have HA3 := Lib.hid (HA2.out.only0 HO3.out)
      clear h3 hen hln
      by_cases hlt : now < en
      · have f1 : decide ((now : Int) < (en : Int)) = true := decide_eq_true (by omega)
        have f1n : decide (now < en) = true := decide_eq_true hlt
        obtain ⟨i2, hb1, hb2, hb3⟩ := HR.out.pick (k := m) (now := now) (by have := HN.out; omega) (by rw [← HC.out, ← HENE.out]; exact hlt) (fun k' hk' hlt => HF.out k' hk' hlt)
        go_upto_region 6 with (go_at_call 45; (refine (HEN.out _ HO3.out).mono ?_); rintro e w4 ⟨rfl, hO4⟩; have HO4 := Lib.hid hO4; clear hO4)
        have hi2 : i2 = i := by
          have e : (P.l[i2]).num = (P.l[i]'HIL.out).num := by
            have h1 := hb3
            rw [← HC.out, cnAt_eq hb2] at h1
            have h2 := HCI.out
            rw [cnAt_eq HIL.out] at h2
            rw [h1, h2]
          exact HR.out.inj hb2 HIL.out e
        subst hi2
        obtain ⟨P2, hP2⟩ : ∃ P2 : Pp, P2 = { P with l := P.l.set i2 ⟨num, 1, who, sn, bo, nth⟩ } := ⟨_, rfl⟩
        have hgive : res = (P2, some ⟨2, num, who⟩) := by
          rw [HRES.out, hP2]
          unfold give
          rw [hb1]
          simp only [HCI.out]
        have HGV := Lib.hid hgive
        have hrel := HR.out.again HIL.out (c := ⟨num, 1, who, sn, bo, nth⟩) (by rw [HCI.out]) (by decide : (1 : Nat) ≠ 2) (by rw [HCI.out])
        rw [HCI.out, ← hP2] at hrel
        simp only at hrel
        have HREL := Lib.hid hrel
        have h4 := HH3.out.only0 HO4.out
        have HA4 := Lib.hid (HA3.out.only0 HO4.out)
        obtain ⟨gl', cl', hvl, _, _, hgl4, e0, e1, e2, e3, e4, hfr⟩ := h4.at_ HIL.out
        injection hvl with hv1 _ hv3
        injection hv1 with hv1
        injection hv1 with hv1 _
        subst hv1
        rw [HCI.out] at e0 e1 e2
        simp only at e0 e1 e2
        have f1' := hfr (i2 * 5 + 1)
        have f2' := hfr (i2 * 5 + 2)
        obtain ⟨_, _, _, _, d5, _, _, hpl⟩ := h4.cells
        rw [← HLN.out] at d5
        obtain ⟨g5, m5⟩ := h4.setC (j := 1) (c := ⟨num, 1, cw, sn, bo, nth⟩) (u := .int .i64 2) (g := gl) rfl HIL.out (by decide) (by rw [HCI.out]; rfl)
        have hci5 : cnAt (P.l.set i2 ⟨num, 1, cw, sn, bo, nth⟩) i2 = ⟨num, 1, cw, sn, bo, nth⟩ := by
          rw [cnAt_eq (by rw [List.length_set]; exact HIL.out)]
          simp
        obtain ⟨g6, m6⟩ := g5.setC (j := 2) (c := ⟨num, 1, who, sn, bo, nth⟩) (u := .int .i64 who) (g := gl) rfl (by show i2 < (P.l.set i2 _).length; rw [List.length_set]; exact HIL.out) (by decide) (by show _ = (gcC (cnAt (P.l.set i2 ⟨num, 1, cw, sn, bo, nth⟩) i2)).set 2 _; rw [hci5]; rfl)
        have d5b : (w4.setCell ⟨gl, i2 * 5 + 1, none⟩ (.int .i64 2)).cell? ⟨p, 5, none⟩ = some (.slice (some ⟨gl, 0, none⟩) ln cl) := by
          have := g5.blk.cell 5 _ rfl
          rw [← HLN.out] at this
          exact this
        have hpl5 := g5.blk.lt
        have hP6 : ({ ({ P with l := P.l.set i2 ⟨num, 1, cw, sn, bo, nth⟩ } : Pp) with l := (P.l.set i2 ⟨num, 1, cw, sn, bo, nth⟩).set i2 ⟨num, 1, who, sn, bo, nth⟩ } : Pp) = P2 := by rw [hP2, set_set]
        have g6' : Gw ((w4.setCell ⟨gl, i2 * 5 + 1, none⟩ (.int .i64 2)).setCell ⟨gl, i2 * 5 + 2, none⟩ (.int .i64 who)) lo p P2 R (.slice (some ⟨gl, 0, none⟩) P.l.length cl) (.slice (some ⟨g, 0, none⟩) n cr) vw := by rw [← hP6]; exact g6
        have HG6 := Lib.hid g6'
        have HM6 := Lib.hid (m5.trans m6)
        have hln6 : (((P.l.set i2 ⟨num, 1, cw, sn, bo, nth⟩)).set i2 ⟨num, 1, who, sn, bo, nth⟩).length ≤ 64 := by simp only [List.length_set]; exact HK.out.l64
        clear hrel hgive hP2 hfr h4 g5 m5 g6 m6 g6' hP6 hb1 hb2 hb3 hci5
        go_upto_region 9 with fail
        have hO14 : Only (fun _ => False) w w4 := ((HO1.out.trans HO.out (fun _ _ h => h)).trans HO3.out (fun _ _ h => h)).trans HO4.out (fun _ _ h => h)
        have hA6 := HA4.out.mv (HH3.out.only0 HO4.out) (Mv.of_only hO14) HG6.out HM6.out
        have HA6 := Lib.hid hA6
        have HM46 := Lib.hid ((Mv.of_only (F := gfoot p (.slice (some ⟨gl, 0, none⟩) P.l.length cl) (.slice (some ⟨g, 0, none⟩) n cr) vw) hO14).trans HM6.out)
        have HRS := Lib.hid (rested_any HG6.out (by rw [HRL.out]; exact hn64) (num : Int))
        clear hA6 hO14 e0 e1 e2 e3 e4 f1' f2' d5 hpl d5b hpl5 hgl4
        generalize (w4.setCell ⟨gl, i2 * 5 + 1, none⟩ (.int .i64 2)).setCell ⟨gl, i2 * 5 + 2, none⟩ (.int .i64 who) = w6 at HG6 HM6 HA6 HM46 HRS ⊢
        go_upto_region 10 with (go_at_call 63; (refine HRS.out.mono ?_); rintro e w7 ⟨rfl, hG⟩; have HA7 := Lib.hid (HA6.out.then_ HG6.out HM46.out hG); clear hG)
        obtain ⟨x0, x1, x2, g0, g1, g2, b0, b1, b2, hql⟩ := HA7.out.cells
        go_wp2_with fail
        obtain ⟨w8, hw8, r0, r1, r2, hl8, h8⟩ := HA7.out.lay (.int .i64 2) (.int .i64 num) (.int .i64 who)
        rw [← hw8]
        clear hw8 g0 g1 g2 b0 b1 b2
        (try simp only [Exit.inBlock, Exit.then])
        refine bodyPost_ret (v := .tuple #[.agg #[.int .i64 2, .int .i64 num, .int .i64 who], .bool true]) (by simp [results, Try.results57, go_sem, r0, r1, r2]) rfl ?_
        refine ⟨by rw [HGV.out]; rfl, rmv R num, ?_, ?_⟩
        · rw [HGV.out]; exact ⟨_, HREL.out⟩
        · rw [HGV.out]; rw [HLN.out] at *; exact h8
      · have f1 : decide ((now : Int) < (en : Int)) = false := decide_eq_false (by omega)
        have f1n : decide (now < en) = false := decide_eq_false hlt
        go_wp2_with (go_at_call 45; (refine (HEN.out _ HO3.out).mono ?_); rintro e w4 ⟨rfl, hO4⟩; have HO4 := Lib.hid hO4; clear hO4)
        go_roundw
        case rel =>
          refine ⟨m, Nat.le_of_succ_le hm, by trivial, (HO.out.trans HO3.out (fun _ _ h => h)).trans HO4.out (fun _ _ h => h), fun k' hk' hle => ?_⟩
          rcases (show m = k' ∨ m + 1 ≤ k' by omega) with rfl | h
          · rw [← HC.out, ← HENE.out]; exact hlt
          · exact HF.out k' hk' h
        case measure => simp [intOf]
end
end Go.Proofs.Ytmpcffkandmacaa
