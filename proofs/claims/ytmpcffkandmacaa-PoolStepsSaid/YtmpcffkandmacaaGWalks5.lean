/- The reference: Ask. -/
import Derived.Test.YtmpcffkandmacaaGWalks4
namespace Go.Proofs.Ytmpcffkandmacaa
open Go.RowKit
set_option linter.unusedVariables false
set_option linter.unusedSimpArgs false

section
variable {F : Nat → Prop} {w0 w : World} {lo p : Nat} {P : Pp} {R : List Nat} {vl vr vw : Value} {Cs : List Cn}
def GQ (F : Nat → Prop) (w0 w : World) (lo p : Nat) (P : Pp) : Prop := ∃ R, Rel P R ∧ GP F w0 w lo p P R
theorem GQ.only0 {w' : World} (h : GQ F w0 w lo p P) (ho : Only (fun _ => False) w w') : GQ F w0 w' lo p P := by
  obtain ⟨R, h1, h2⟩ := h
  exact ⟨R, h1, h2.only0 ho⟩
set_option maxRecDepth 100000 in
set_option maxHeartbeats 800000 in
theorem gask_err1 (h : GP F w0 w lo p P R) (now who : Int) (hb : ¬ isMoment now ∨ who < 0) :
    Calls Try.prog 37 #[ptr p, .int .i64 now, .int .i64 who] w fun e w' => e = .returned (.tuple #[acV ⟨0, 0, 0⟩, .int .i64 1]) ∧ GP F w0 w' lo p P R := by
  have z82 := zero82
  have hA := GI.new h
  have key : ∃ b : Bool, (b = true → who < 0) ∧ ∀ w, Calls Try.prog 16 #[.int .i64 now] w fun e w' => e = .returned (.bool b) ∧ w = w' := by
    by_cases hm : isMoment now
    · exact ⟨true, fun _ => hb.resolve_left (fun h => h hm), fun w => rmoment_ok now w hm.1 hm.2⟩
    · exact ⟨false, fun h => by (cases h), fun w => rmoment_bad now w (by unfold isMoment at hm; omega)⟩
  obtain ⟨b, hw, hmo⟩ := key
  have HM := Lib.hid hmo
  clear h hb hmo
  go_enter Try.func37, Try.ntmps37
  go_upto_region 1 with fail
  obtain ⟨q, hq⟩ : ∃ q, q = w.heap.size := ⟨_, rfl⟩
  rw [← hq] at hA ⊢
  clear hq
  generalize w.alloc (Obj.cells #[.int .i64 0, .int .i64 0, .int .i64 0] 82) = w1 at hA ⊢
  obtain ⟨x0, x1, x2, g0, g1, g2, e0, e1, e2, hql⟩ := hA.cells
  have HA := Lib.hid hA
  clear hA
  cases b with
  | true =>
    have hwho := hw rfl
    clear hw
    go_wp2_with (go_at_call 16; (refine (HM.out _).mono ?_); rintro e w' ⟨rfl, rfl⟩)
    obtain ⟨w5, hw5, r0, r1, r2, hl5, h5⟩ := HA.out.lay (.int .i64 0) (.int .i64 0) (.int .i64 0)
    rw [← hw5]
    clear hw5 g0 g1 g2 e0 e1 e2
    (try simp only [Exit.inBlock, Exit.then])
    refine bodyPost_ret (v := .tuple #[.agg #[.int .i64 0, .int .i64 0, .int .i64 0], .int .i64 1]) (by simp [results, Try.results37, go_sem, r0, r1, r2]) rfl ?_
    exact ⟨rfl, h5⟩
  | false =>
    clear hw
    go_wp2_with (go_at_call 16; (refine (HM.out _).mono ?_); rintro e w' ⟨rfl, rfl⟩)
    obtain ⟨w5, hw5, r0, r1, r2, hl5, h5⟩ := HA.out.lay (.int .i64 0) (.int .i64 0) (.int .i64 0)
    rw [← hw5]
    clear hw5 g0 g1 g2 e0 e1 e2
    (try simp only [Exit.inBlock, Exit.then])
    refine bodyPost_ret (v := .tuple #[.agg #[.int .i64 0, .int .i64 0, .int .i64 0], .int .i64 1]) (by simp [results, Try.results37, go_sem, r0, r1, r2]) rfl ?_
    exact ⟨rfl, h5⟩
/-- What the two questions ahead of a gift tell. -/
theorem gask_of (h : GP F w0 w lo p P R) (who : Int) : ∃ vl vr vw, Gw w lo p P R vl vr vw ∧ Mv F (gfoot p vl vr vw) w0 w ∧ Calls Try.prog 55 #[ptr p, .int .i64 who] w (fun e w' => e = .returned (.int .i64 (idxV (ofI P who))) ∧ Only (fun _ => False) w w')
    ∧ ∀ w', Only (fun _ => False) w w' → Calls Try.prog 56 #[ptr p, .int .i64 who] w' (fun e w'' => e = .returned (.int .i64 (idxV (P.waits.findIdx? fun x => decide (x = who)))) ∧ w' = w'') := by
  obtain ⟨vl, vr, vw, h, hm⟩ := h
  exact ⟨vl, vr, vw, h, hm, gof_any h who, fun w' ho => gwaiting_any (h.only0 ho) who⟩
set_option maxRecDepth 100000 in
set_option maxHeartbeats 800000 in
theorem gask_err7 (h : GP F w0 w lo p P R) (now who : Int) (hm : isMoment now) (hw : 0 ≤ who) (hb : (ofI P who).isSome = true ∨ who ∈ P.waits) :
    Calls Try.prog 37 #[ptr p, .int .i64 now, .int .i64 who] w fun e w' => e = .returned (.tuple #[acV ⟨0, 0, 0⟩, .int .i64 7]) ∧ GP F w0 w' lo p P R := by
  have z82 := zero82
  have hA := GI.new h
  have HM := Lib.hid (fun w => rmoment_ok now w hm.1 hm.2)
  obtain ⟨vl, vr, vw, hp, hmv, hof, hwa⟩ := gask_of hA.pp who
  have hx : ∃ x : Int, idxV (ofI P who) = x ∧ ((0 ≤ x) ∨ (x < 0 ∧ ∃ y : Int, idxV (P.waits.findIdx? fun x => decide (x = who)) = y ∧ 0 ≤ y)) := by
    refine ⟨_, rfl, ?_⟩
    cases ho : ofI P who with
    | some i => exact .inl (by unfold idxV; simp only; omega)
    | none =>
      refine .inr ⟨by decide, _, rfl, ?_⟩
      have hmem : who ∈ P.waits := hb.resolve_left (by rw [ho]; simp)
      have := idxV_mem (l := P.waits) (who := who)
      rw [decide_eq_true hmem] at this
      exact of_decide_eq_true this
  obtain ⟨x, ex, hx⟩ := hx
  rw [ex] at hof
  have HOF := Lib.hid hof
  rcases hx with hx | ⟨hx, y, ey, hy⟩
  · clear h hb hm hp hmv hof hwa ex
    go_enter Try.func37, Try.ntmps37
    go_upto_region 1 with fail
    obtain ⟨q, hq⟩ : ∃ q, q = w.heap.size := ⟨_, rfl⟩
    rw [← hq] at hA ⊢
    clear hq
    generalize w.alloc (Obj.cells #[.int .i64 0, .int .i64 0, .int .i64 0] 82) = w1 at hA HOF ⊢
    have HA := Lib.hid hA
    clear hA
    go_upto_region 4 with (first
      | (go_at_call 16; (refine (HM.out _).mono ?_); rintro e w' ⟨rfl, rfl⟩)
      | (go_at_call 55; (refine HOF.out.mono ?_); rintro e w2 ⟨rfl, hd⟩; have HD := Lib.hid hd; clear hd))
    have HA2 := Lib.hid (HA.out.only0 HD.out)
    obtain ⟨x0, x1, x2, g0, g1, g2, e0, e1, e2, hql⟩ := HA2.out.cells
    go_wp2_with fail
    obtain ⟨w5, hw5, r0, r1, r2, hl5, h5⟩ := HA2.out.lay (.int .i64 0) (.int .i64 0) (.int .i64 0)
    rw [← hw5]
    clear hw5 g0 g1 g2 e0 e1 e2
    (try simp only [Exit.inBlock, Exit.then])
    refine bodyPost_ret (v := .tuple #[.agg #[.int .i64 0, .int .i64 0, .int .i64 0], .int .i64 7]) (by simp [results, Try.results37, go_sem, r0, r1, r2]) rfl ?_
    exact ⟨rfl, h5⟩
  · have f1 : decide (0 ≤ x) = false := decide_eq_false (by omega)
    rw [ey] at hwa
    have HWA := Lib.hid hwa
    clear h hb hm hp hmv hof hwa ex ey
    go_enter Try.func37, Try.ntmps37
    go_upto_region 1 with fail
    obtain ⟨q, hq⟩ : ∃ q, q = w.heap.size := ⟨_, rfl⟩
    rw [← hq] at hA ⊢
    clear hq
    generalize w.alloc (Obj.cells #[.int .i64 0, .int .i64 0, .int .i64 0] 82) = w1 at hA HOF HWA ⊢
    have HA := Lib.hid hA
    clear hA
    go_upto_region 4 with (first
      | (go_at_call 16; (refine (HM.out _).mono ?_); rintro e w' ⟨rfl, rfl⟩)
      | (go_at_call 55; (refine HOF.out.mono ?_); rintro e w2 ⟨rfl, hd⟩; have HD := Lib.hid hd; clear hd)
      | (go_at_call 56; (refine (HWA.out w2 HD.out).mono ?_); rintro e w' ⟨rfl, rfl⟩))
    have HA2 := Lib.hid (HA.out.only0 HD.out)
    obtain ⟨x0, x1, x2, g0, g1, g2, e0, e1, e2, hql⟩ := HA2.out.cells
    go_wp2_with fail
    obtain ⟨w5, hw5, r0, r1, r2, hl5, h5⟩ := HA2.out.lay (.int .i64 0) (.int .i64 0) (.int .i64 0)
    rw [← hw5]
    clear hw5 g0 g1 g2 e0 e1 e2
    (try simp only [Exit.inBlock, Exit.then])
    refine bodyPost_ret (v := .tuple #[.agg #[.int .i64 0, .int .i64 0, .int .i64 0], .int .i64 7]) (by simp [results, Try.results37, go_sem, r0, r1, r2]) rfl ?_
    exact ⟨rfl, h5⟩
theorem idxV_none {l : List Int} {who : Int} (h : who ∉ l) : idxV (l.findIdx? fun x => decide (x = who)) = -1 := by
  cases hf : l.findIdx? (fun x => decide (x = who)) with
  | none => rfl
  | some i =>
    have := idxV_mem (l := l) (who := who)
    rw [hf, decide_eq_false h] at this
    have h2 := of_decide_eq_false this
    unfold idxV at h2
    simp only at h2
    omega
set_option maxRecDepth 100000 in
set_option maxHeartbeats 1600000 in
theorem gask_got (h : GP F w0 w lo p P R) (hrel : Rel P R) {k : Nat} (hk : Okp P k) (hk9 : k < 9223372036854775807) (now who : Int) (hm : isMoment now) (hw : 0 ≤ who) (hof0 : ofI P who = none) (hmem : who ∉ P.waits) {P2 : Pp} {x : Ac} (hg : give P now.toNat who = (P2, some x)) :
    Calls Try.prog 37 #[ptr p, .int .i64 now, .int .i64 who] w fun e w' => e = .returned (.tuple #[acV x, .int .i64 0]) ∧ GQ F w0 w' lo p P2 := by
  have z82 := zero82
  obtain ⟨nn, rfl⟩ : ∃ nn : Nat, now = nn := ⟨now.toNat, by have := hm.1; omega⟩
  have hA := GI.new h
  have HM := Lib.hid (fun w => rmoment_ok nn w hm.1 hm.2)
  obtain ⟨vl, vr, vw, hp, hmv, hof, hwa⟩ := gask_of hA.pp who
  rw [hof0] at hof
  rw [idxV_none hmem] at hwa
  simp only [idxV] at hof
  obtain ⟨Cs, hrc⟩ := hrel
  have HG := Lib.hid (fun (w' : World) (ho : Only (fun _ => False) (w.alloc (Obj.cells #[.int .i64 0, .int .i64 0, .int .i64 0] 82)) w') => ggive_any (hp.only0 ho) hrc hk hk9 nn who)
  rw [show nn = (nn : Int).toNat from rfl, hg] at HG
  have HP := Lib.hid hp
  have HMV := Lib.hid hmv
  have HOF := Lib.hid hof
  have HWA := Lib.hid hwa
  clear h hk hm hp hmv hof hwa hmem hof0 hg hrc
  go_enter Try.func37, Try.ntmps37
  go_upto_region 1 with fail
  obtain ⟨q, hq⟩ : ∃ q, q = w.heap.size := ⟨_, rfl⟩
  rw [← hq] at hA ⊢
  clear hq
  generalize w.alloc (Obj.cells #[.int .i64 0, .int .i64 0, .int .i64 0] 82) = w1 at hA HOF HWA HG HP HMV ⊢
  have HA := Lib.hid hA
  clear hA
  go_upto_region 7 with (first
    | (go_at_call 16; (refine (HM.out _).mono ?_); rintro e w' ⟨rfl, rfl⟩)
    | (go_at_call 55; (refine HOF.out.mono ?_); rintro e w2 ⟨rfl, hd⟩; have HD := Lib.hid hd; clear hd)
    | (go_at_call 56; (refine (HWA.out w2 HD.out).mono ?_); rintro e w' ⟨rfl, rfl⟩)
    | (go_at_call 57; (refine (HG.out _ HD.out).mono ?_); rintro e w3 ⟨rfl, R2, hR2, hP⟩; have HPP := Lib.hid hP; have HR2 := Lib.hid hR2; clear hP hR2; simp only [gvV]))
  have HA3 := Lib.hid ((HA.out.only0 HD.out).then_ (HP.out.only0 HD.out) (HMV.out.trans (Mv.of_only HD.out)) HPP.out)
  have ho4 : Only (fun _ => False) w3 (w3.alloc (Obj.cells #[.int .i64 x.kind, .int .i64 x.conn, .int .i64 x.who] 82)) := (Only.refl _ _).alloc _
  have hb4 : Blk (w3.alloc (Obj.cells #[.int .i64 x.kind, .int .i64 x.conn, .int .i64 x.who] 82)) w3.heap.size (acC x) 82 := Blk.new w3 (acC x) 82
  obtain ⟨q2, hq2⟩ : ∃ q2, q2 = w3.heap.size := ⟨_, rfl⟩
  rw [← hq2] at hb4 ⊢
  have HA4 := Lib.hid (HA3.out.only0 ho4)
  clear hq2
  generalize w3.alloc (Obj.cells #[.int .i64 x.kind, .int .i64 x.conn, .int .i64 x.who] 82) = w4 at hb4 HA4 ⊢
  have k0 := hb4.cell 0 _ rfl
  have k1 := hb4.cell 1 _ rfl
  have k2 := hb4.cell 2 _ rfl
  have hq2l := hb4.lt
  obtain ⟨x0, x1, x2, g0, g1, g2, e0, e1, e2, hql⟩ := HA4.out.cells
  clear hb4 ho4
  go_wp2_with fail
  obtain ⟨w5, hw5, r0, r1, r2, hl5, h5⟩ := HA4.out.lay (.int .i64 x.kind) (.int .i64 x.conn) (.int .i64 x.who)
  rw [← hw5]
  clear hw5 g0 g1 g2 e0 e1 e2
  (try simp only [Exit.inBlock, Exit.then])
  refine bodyPost_ret (v := .tuple #[.agg #[.int .i64 x.kind, .int .i64 x.conn, .int .i64 x.who], .int .i64 0]) (by simp [results, Try.results37, go_sem, r0, r1, r2]) rfl ?_
  exact ⟨rfl, R2, HR2.out, h5⟩
set_option maxRecDepth 100000 in
set_option maxHeartbeats 1600000 in
theorem gask_full (h : GP F w0 w lo p P R) (hrel : Rel P R) {k : Nat} (hk : Okp P k) (hk9 : k < 9223372036854775807) (now who : Int) (hm : isMoment now) (hw : 0 ≤ who) (hof0 : ofI P who = none) (hmem : who ∉ P.waits) (hg : give P now.toNat who = (P, none)) (hfl : P.pend ≤ P.waits.length) :
    Calls Try.prog 37 #[ptr p, .int .i64 now, .int .i64 who] w fun e w' => e = .returned (.tuple #[acV ⟨4, -1, who⟩, .int .i64 0]) ∧ GQ F w0 w' lo p P := by
  have z82 := zero82
  obtain ⟨nn, rfl⟩ : ∃ nn : Nat, now = nn := ⟨now.toNat, by have := hm.1; omega⟩
  have hA := GI.new h
  have HM := Lib.hid (fun w => rmoment_ok nn w hm.1 hm.2)
  obtain ⟨vl, vr, vw, hp, hmv, hof, hwa⟩ := gask_of hA.pp who
  rw [hof0] at hof
  rw [idxV_none hmem] at hwa
  simp only [idxV] at hof
  obtain ⟨Cs, hrc⟩ := hrel
  have HG := Lib.hid (fun (w' : World) (ho : Only (fun _ => False) (w.alloc (Obj.cells #[.int .i64 0, .int .i64 0, .int .i64 0] 82)) w') => ggive_any (hp.only0 ho) hrc hk hk9 nn who)
  rw [show nn = (nn : Int).toNat from rfl, hg] at HG
  have HP := Lib.hid hp
  have HMV := Lib.hid hmv
  have HOF := Lib.hid hof
  have HWA := Lib.hid hwa
  have hc64 := hk.w64
  clear h hk hm hp hmv hof hwa hmem hof0 hg hrc
  go_enter Try.func37, Try.ntmps37
  go_upto_region 1 with fail
  obtain ⟨q, hq⟩ : ∃ q, q = w.heap.size := ⟨_, rfl⟩
  rw [← hq] at hA ⊢
  clear hq
  generalize w.alloc (Obj.cells #[.int .i64 0, .int .i64 0, .int .i64 0] 82) = w1 at hA HOF HWA HG HP HMV ⊢
  have HA := Lib.hid hA
  clear hA
  go_upto_region 8 with (first
    | (go_at_call 16; (refine (HM.out _).mono ?_); rintro e w' ⟨rfl, rfl⟩)
    | (go_at_call 55; (refine HOF.out.mono ?_); rintro e w2 ⟨rfl, hd⟩; have HD := Lib.hid hd; clear hd)
    | (go_at_call 56; (refine (HWA.out w2 HD.out).mono ?_); rintro e w' ⟨rfl, rfl⟩)
    | (go_at_call 57; (refine (HG.out _ HD.out).mono ?_); rintro e w3 ⟨rfl, R2, hR2, hP⟩; have HPP := Lib.hid hP; have HR2 := Lib.hid hR2; clear hP hR2; simp only [gvV]))
  have HA3 := Lib.hid ((HA.out.only0 HD.out).then_ (HP.out.only0 HD.out) (HMV.out.trans (Mv.of_only HD.out)) HPP.out)
  have ho4 : Only (fun _ => False) w3 (w3.alloc (Obj.cells #[.int .i64 0, .int .i64 0, .int .i64 0] 82)) := (Only.refl _ _).alloc _
  have HA4 := Lib.hid (HA3.out.only0 ho4)
  generalize hq2 : w3.heap.size = q2
  clear hq2 ho4
  generalize w3.alloc (Obj.cells #[.int .i64 0, .int .i64 0, .int .i64 0] 82) = w4 at HA4 ⊢
  obtain ⟨vl4, vr4, vw4, hp4, hm4⟩ := HA4.out.pp
  obtain ⟨n, hn⟩ : ∃ n, n = P.waits.length := ⟨_, rfl⟩
  obtain ⟨aw, cw, rfl, hw1, hw2, _⟩ := iRow_of hp4.wt
  have d7 := hp4.blk.cell 7 _ rfl
  have d1 := hp4.blk.cell 1 _ rfl
  have hpl := hp4.blk.lt
  rw [← hn] at hw1 d7 hfl hc64
  obtain ⟨pd, hpd⟩ : ∃ pd, pd = P.pend := ⟨_, rfl⟩
  rw [← hpd] at d1 hfl
  have f2 : decide ((n : Int) < (pd : Int)) = false := decide_eq_false (by omega)
  have f2n : decide (n < pd) = false := decide_eq_false (by omega)
  have HN := Lib.hid hn
  clear hp4 hm4 hn hpd
  go_quiet (fail)
  have HA5 := Lib.hid (HA4.out.only0 ((Drawn.of w4 nq).only (fun _ => False)))
  clear d7 d1 hpl
  generalize w4.drewN nq = w5 at HA5 ⊢
  obtain ⟨x0, x1, x2, g0, g1, g2, e0, e1, e2, hql⟩ := HA5.out.cells
  go_wp2_with fail
  obtain ⟨w6, hw6, r0, r1, r2, hl5, h5⟩ := HA5.out.lay (.int .i64 4) (.int .i64 (-1)) (.int .i64 who)
  rw [← hw6]
  clear hw6 g0 g1 g2 e0 e1 e2
  (try simp only [Exit.inBlock, Exit.then])
  refine bodyPost_ret (v := .tuple #[.agg #[.int .i64 4, .int .i64 (-1), .int .i64 who], .int .i64 0]) (by simp [results, Try.results37, go_sem, r0, r1, r2]) rfl ?_
  exact ⟨rfl, R2, HR2.out, h5⟩
set_option maxRecDepth 100000 in
set_option maxHeartbeats 1600000 in
theorem gask_wait (h : GP F w0 w lo p P R) (hrel : Rel P R) {k : Nat} (hk : Okp P k) (hk9 : k < 9223372036854775807) (now who : Int) (hm : isMoment now) (hw : 0 ≤ who) (hof0 : ofI P who = none) (hmem : who ∉ P.waits) (hg : give P now.toNat who = (P, none)) (hfl : ¬ P.pend ≤ P.waits.length) :
    Calls Try.prog 37 #[ptr p, .int .i64 now, .int .i64 who] w fun e w' => e = .returned (.tuple #[acV ⟨3, -1, who⟩, .int .i64 0]) ∧ GQ F w0 w' lo p { P with waits := P.waits ++ [who] } := by
  have z82 := zero82
  obtain ⟨i3, hi3, hz0, hz1, hz2⟩ := info_parts Try.info3
  obtain ⟨nn, rfl⟩ : ∃ nn : Nat, now = nn := ⟨now.toNat, by have := hm.1; omega⟩
  have hA := GI.new h
  have HM := Lib.hid (fun w => rmoment_ok nn w hm.1 hm.2)
  obtain ⟨vl, vr, vw, hp, hmv, hof, hwa⟩ := gask_of hA.pp who
  rw [hof0] at hof
  rw [idxV_none hmem] at hwa
  simp only [idxV] at hof
  obtain ⟨Cs, hrc⟩ := hrel
  have HG := Lib.hid (fun (w' : World) (ho : Only (fun _ => False) (w.alloc (Obj.cells #[.int .i64 0, .int .i64 0, .int .i64 0] 82)) w') => ggive_any (hp.only0 ho) hrc hk hk9 nn who)
  rw [show nn = (nn : Int).toNat from rfl, hg] at HG
  have HP := Lib.hid hp
  have HMV := Lib.hid hmv
  have HOF := Lib.hid hof
  have HWA := Lib.hid hwa
  have hc64 := hk.w64
  clear h hk hm hp hmv hof hwa hmem hof0 hg hrc
  go_enter Try.func37, Try.ntmps37
  go_upto_region 1 with fail
  obtain ⟨q, hq⟩ : ∃ q, q = w.heap.size := ⟨_, rfl⟩
  rw [← hq] at hA ⊢
  clear hq
  generalize w.alloc (Obj.cells #[.int .i64 0, .int .i64 0, .int .i64 0] 82) = w1 at hA HOF HWA HG HP HMV ⊢
  have HA := Lib.hid hA
  clear hA
  go_upto_region 8 with (first
    | (go_at_call 16; (refine (HM.out _).mono ?_); rintro e w' ⟨rfl, rfl⟩)
    | (go_at_call 55; (refine HOF.out.mono ?_); rintro e w2 ⟨rfl, hd⟩; have HD := Lib.hid hd; clear hd)
    | (go_at_call 56; (refine (HWA.out w2 HD.out).mono ?_); rintro e w' ⟨rfl, rfl⟩)
    | (go_at_call 57; (refine (HG.out _ HD.out).mono ?_); rintro e w3 ⟨rfl, R2, hR2, hP⟩; have HPP := Lib.hid hP; have HR2 := Lib.hid hR2; clear hP hR2; simp only [gvV]))
  have HA3 := Lib.hid ((HA.out.only0 HD.out).then_ (HP.out.only0 HD.out) (HMV.out.trans (Mv.of_only HD.out)) HPP.out)
  have ho4 : Only (fun _ => False) w3 (w3.alloc (Obj.cells #[.int .i64 0, .int .i64 0, .int .i64 0] 82)) := (Only.refl _ _).alloc _
  have HA4 := Lib.hid (HA3.out.only0 ho4)
  generalize hq2 : w3.heap.size = q2
  clear hq2 ho4
  generalize w3.alloc (Obj.cells #[.int .i64 0, .int .i64 0, .int .i64 0] 82) = w4 at HA4 ⊢
  obtain ⟨vl4, vr4, vw4, hp4, hm4⟩ := HA4.out.pp
  obtain ⟨n, hn⟩ : ∃ n, n = P.waits.length := ⟨_, rfl⟩
  obtain ⟨aw, cw, rfl, hw1, hw2, _⟩ := iRow_of hp4.wt
  have d7 := hp4.blk.cell 7 _ rfl
  have d1 := hp4.blk.cell 1 _ rfl
  have hpl := hp4.blk.lt
  rw [← hn] at hw1 d7 hfl hc64
  obtain ⟨pd, hpd⟩ : ∃ pd, pd = P.pend := ⟨_, rfl⟩
  rw [← hpd] at d1 hfl
  have f2 : decide ((n : Int) < (pd : Int)) = true := decide_eq_true (by omega)
  have f2n : decide (n < pd) = true := decide_eq_true (by omega)
  have HN := Lib.hid hn
  clear hp4 hm4 hn hpd
  go_quiet (fail)
  have HA5 := Lib.hid (HA4.out.only0 ((Drawn.of w4 nq).only (fun _ => False)))
  clear d7 d1 hpl
  generalize w4.drewN nq = w5 at HA5 ⊢
  obtain ⟨vl5, vr5, vw5, hp5, hm5⟩ := HA5.out.pp
  obtain ⟨aw5, cw5, rfl, hw51, hw52, _⟩ := iRow_of hp5.wt
  have d7 := hp5.blk.cell 7 _ rfl
  have hpl := hp5.blk.lt
  have hlo5 : lo ≤ w5.heap.size := by have := hp5.low; omega
  rw [← HN.out] at d7 hw51
  have HP5 := Lib.hid hp5
  have HM5 := Lib.hid hm5
  have HROW := Lib.hid (show w5.ownsRow lo 3 1 (.slice aw5 n cw5) n (ints P.waits) by have := hp5.wt; rw [HN.out]; exact this)
  clear hp5 hm5
  go_upto_region 10 with (at_builtin; refine wpList_append_row rfl (.tmp 52) (.tmp 54) 51 rfl lo 3 i3 (.int .i64 0) 1 8 Try.underlying51 hi3 hz0 hz1 hz2 rfl (by decide) (.slice aw5 n cw5) n (ints P.waits) rfl (HROW.out.alloc _) (some ⟨w5.heap.size, 0, none⟩) 1 1 [.int .i64 who] rfl rfl (fun _ => ⟨_, rfl, new_one _ _ _⟩) (fun e => by cases e) (one_int _ _) (by unfold maxLen; omega) (by omega) (by simp only [World.size_alloc]; omega) ?_; intro v9 w9 hown9 hon9 hat9 _; obtain ⟨a9, k9, rfl, _, _, _, _⟩ := ownsRow_slice hown9; have HO9 := Lib.hid hown9; have HN9 := Lib.hid hon9; have HA9 := Lib.hid hat9; have hb9 := (HP5.out.blk.alloc (Obj.cells #[.int .i64 who] 3)).only hon9 (fun e => by have h := HP5.out.nw; rw [← HN.out] at h; exact h e); have g7 := hb9.cell 7 _ rfl; have f7 := hb9.free 7; have hpl9 := hb9.lt; clear hown9 hon9 hat9 hb9)
  have hon : Only (fun k => (Value.slice aw5 P.waits.length cw5).ownBlock = some k) w5 w9 := by
    rw [← HN.out]
    exact (((Only.refl (fun _ => False) w5).alloc (Obj.cells #[.int .i64 who] 3)).mono (fun _ _ h => h.elim)).trans HN9.out (fun _ _ h => h)
  have hA10 := HA5.out.mv HP5.out HM5.out (HP5.out.setW (l := P.waits ++ [who]) hon (v := .slice a9 (n + 1) k9) (by rw [List.length_append, List.length_singleton, ints_append, ← HN.out]; exact HO9.out) (fun k hk => by
    rw [← HN.out]
    rcases HA9.out with e | e
    · exact .inl (by rw [← e]; exact hk)
    · rw [e] at hk; injection hk with hk; simp only [World.size_alloc] at hk; exact .inr (by omega))).1 (HP5.out.setW (l := P.waits ++ [who]) hon (v := .slice a9 (n + 1) k9) (by rw [List.length_append, List.length_singleton, ints_append, ← HN.out]; exact HO9.out) (fun k hk => by
    rw [← HN.out]
    rcases HA9.out with e | e
    · exact .inl (by rw [← e]; exact hk)
    · rw [e] at hk; injection hk with hk; simp only [World.size_alloc] at hk; exact .inr (by omega))).2
  clear g7 f7 hpl9 d7 hpl hon
  generalize w9.setCell ⟨p, 7, none⟩ (.slice a9 (n + 1) k9) = w10 at hA10 ⊢
  obtain ⟨x0, x1, x2, g0, g1, g2, e0, e1, e2, hql⟩ := hA10.cells
  have HA10 := Lib.hid hA10
  clear hA10
  go_wp2_with fail
  obtain ⟨w6, hw6, r0, r1, r2, hl5, h5⟩ := HA10.out.lay (.int .i64 3) (.int .i64 (-1)) (.int .i64 who)
  rw [← hw6]
  clear hw6 g0 g1 g2 e0 e1 e2
  (try simp only [Exit.inBlock, Exit.then])
  refine bodyPost_ret (v := .tuple #[.agg #[.int .i64 3, .int .i64 (-1), .int .i64 who], .int .i64 0]) (by simp [results, Try.results37, go_sem, r0, r1, r2]) rfl ?_
  exact ⟨rfl, R2, HR2.out.waits _, h5⟩
theorem gask_any (h : GQ F w0 w lo p P) {k : Nat} (hk : Okp P k) (hk9 : k < 9223372036854775807) (now who : Int) :
    Calls Try.prog 37 #[ptr p, .int .i64 now, .int .i64 who] w fun e w' => e = .returned (.tuple #[acV (ask P now who).2.1, .int .i64 (ask P now who).2.2]) ∧ GQ F w0 w' lo p (ask P now who).1 := by
  obtain ⟨R, hr, h⟩ := h
  unfold ask
  by_cases h1 : ¬ isMoment now ∨ who < 0
  · rw [if_pos h1]; exact (gask_err1 h now who h1).mono (by rintro e w' ⟨rfl, hP⟩; exact ⟨rfl, R, hr, hP⟩)
  · rw [if_neg h1]
    have hm : isMoment now := Classical.byContradiction fun e => h1 (.inl e)
    have hw : 0 ≤ who := by have := fun e => h1 (.inr e); omega
    by_cases h2 : (ofI P who).isSome = true ∨ who ∈ P.waits
    · rw [if_pos h2]; exact (gask_err7 h now who hm hw h2).mono (by rintro e w' ⟨rfl, hP⟩; exact ⟨rfl, R, hr, hP⟩)
    · rw [if_neg h2]
      have ho : ofI P who = none := by
        cases ho : ofI P who with
        | none => rfl
        | some i => exact absurd (.inl (by rw [ho]; rfl)) h2
      have hmem : who ∉ P.waits := fun e => h2 (.inr e)
      cases hg : give P now.toNat who with
      | mk P2 og =>
        cases og with
        | some x => exact gask_got h hr hk hk9 now who hm hw ho hmem hg
        | none =>
          have e := (give_none hg).1
          subst e
          simp only
          by_cases hf : P2.pend ≤ P2.waits.length
          · rw [if_pos hf]; exact gask_full h hr hk hk9 now who hm hw ho hmem hg hf
          · rw [if_neg hf]; exact gask_wait h hr hk hk9 now who hm hw ho hmem hg hf
end
end Go.Proofs.Ytmpcffkandmacaa
