/- Drop. -/
import Derived.Test.YtmpcffkandmacaaWalks11
namespace Go.Proofs.Ytmpcffkandmacaa
open Go.RowKit
set_option linter.unusedVariables false
set_option linter.unusedSimpArgs false

theorem dropW_ok {P : Pp} {k i : Nat} (h : Okp P k) : Okp (dropW P i) k := by
  have hl : (P.waits.eraseIdx i).length ≤ P.waits.length := by rw [List.length_eraseIdx]; split <;> omega
  have h1 := h.p
  have h2 := h.x
  exact ⟨⟨h.n.c, h.n.d, h.n.i, h.n.f⟩, h.t, h.c, by show (P.waits.eraseIdx i).length ≤ P.pend; omega, by show P.next + (P.waits.eraseIdx i).length ≤ k; omega, h.r⟩
section
variable {F : Nat → Prop} {w0 w : World} {lo p : Nat} {P : Pp} {X : List (Nat × Cn)} {vl vw : Value}
/-- p.waits = a row without one. -/
theorem Pw.dropR (h : Pw w lo p P X vl vw) {i : Nat} {v2 v3 : Value} {w2 w3 : World} (ho2 : Only (fun _ => False) w w2) (h2 : w2.ownsRow w.heap.size 3 1 v2 P.waits.length (ints P.waits)) (h3 : w3.ownsRow w.heap.size 3 1 v3 (P.waits.eraseIdx i).length (ints (P.waits.eraseIdx i))) (hat : v3.ownBlock = v2.ownBlock) (ho3 : Only (fun k => v2.ownBlock = some k) w2 w3) :
    Pw w3 lo p P X vl vw ∧ Pw (w3.setCell ⟨p, 7, none⟩ v3) lo p (dropW P i) X vl v3 ∧ Mv (foot p X vl vw) (foot p X vl v3) w (w3.setCell ⟨p, 7, none⟩ v3) := by
  have hge : ∀ k, v2.ownBlock = some k → w.heap.size ≤ k := fun k hk => (ownsRow_lt h2 k hk).1
  have hp2 := h.only ho2 (fun _ _ h => h)
  have hp3 := hp2.only ho3 (fun k hk e => by have := (h.lt k hk).2; have := hge k e; omega)
  have hlo : lo ≤ w.heap.size := by have := h.low; have := h.blk.lt; omega
  refine ⟨hp3, hp3.setW (P' := dropW P i) rfl rfl (.inl (ownsRow_lower h3 hlo)), ?_, fun k hk => ?_⟩
  · have := ((ho2.mono (T := foot p X vl vw) (fun _ _ h => h.elim)).trans ho3 (fun k hk e => by have := hge k e; omega)).trans (only_p w3 p 7 v3) (fun k _ e => .inl e)
    exact this
  · rcases hk with hk | hk | hk | hk
    · exact .inl (.inl hk)
    · exact .inl (.inr (.inl hk))
    · exact .inl (.inr (.inr (.inl hk)))
    · exact .inr (hge k (by rw [← hat]; exact hk))
set_option maxRecDepth 100000 in
set_option maxHeartbeats 1600000 in
theorem drop_wait (h : PP F w0 w lo p P) {k : Nat} (hk : Okp P k) (hk9 : k < 9223372036854775807) (nn : Nat) (hnn : nn ≤ 4611686018427387904) (who : Int) {i : Nat} (hi : P.waits.findIdx? (fun x => decide (x = who)) = some i) :
    Calls Try.prog 14 #[ptr p, .int .i64 nn, .int .i64 who] w fun e w' => ∃ v, e = .returned (.tuple #[v, .int .i64 0]) ∧ AcP F w0 w w' lo p (serve (dropW P i) nn).1 v (serve (dropW P i) nn).2 := by
  have HM := Lib.hid (fun w => moment_ok nn w (by omega) (by omega))
  obtain ⟨X, vl, vw, hp, hmv⟩ := h
  have hil : i < P.waits.length := (List.findIdx?_eq_some_iff_getElem.1 hi).1
  have hix := index_any hp.wt who
  rw [hi] at hix
  simp only [idxV] at hix
  obtain ⟨n, hn⟩ : ∃ n, n = P.waits.length := ⟨_, rfl⟩
  obtain ⟨aw, cw, rfl, hw1, hw2, _, _⟩ := hp.wt.slice
  have d7 := hp.blk.cell 7 _ rfl
  have hpl := hp.blk.lt
  have hcl := clone_ints hp.wt hk.w64 (by omega)
  have H64 := Lib.hid hk.w64
  have HIL := Lib.hid hil
  rw [← hn] at d7 hix hcl hw1
  have hcw : cw ≤ 9223372036854775807 := by unfold maxLen at hw2; omega
  have hn64 : n ≤ 64 := by rw [hn]; exact hk.w64
  have HN := Lib.hid hn
  have hin : i < n := by omega
  have HIX := Lib.hid hix
  have HCL := Lib.hid hcl
  have HP := Lib.hid hp
  have HV := Lib.hid hmv
  have HK := Lib.hid (dropW_ok (i := i) hk)
  obtain ⟨P1, hP1⟩ : ∃ P1, P1 = dropW P i := ⟨_, rfl⟩
  rw [← hP1] at HK ⊢
  have HP1 := Lib.hid hP1
  have h0i : (0 : Int) ≤ (i : Int) := by omega
  clear hp hmv hk hi hix hcl hP1 hw2 hn hil
  go_enter Try.func14, Try.ntmps14
  go_upto_region 9 with (first
    | (go_at_call 23; (refine (HM.out _).mono ?_); rintro e w' ⟨rfl, rfl⟩)
    | (go_at_call 31; (refine HIX.out.mono ?_); rintro e w' ⟨rfl, rfl⟩)
    | (go_at_call 33; (refine HCL.out.mono ?_); rintro e w2 ⟨v2, rfl, h2, ho2⟩; have H2 := Lib.hid h2; have HO2 := Lib.hid ho2; clear h2 ho2)
    | (go_at_call 32; (refine (delete_ints (by rw [← HN.out]; exact H2.out) H64.out HIL.out).mono ?_); rintro e w3 ⟨v3, rfl, h3, hat, ho3⟩; obtain ⟨a3, k3, rfl, _, _, _, _⟩ := ownsRow_slice h3; obtain ⟨g1, g2, g3⟩ := HP.out.dropR HO2.out (by rw [← HN.out]; exact H2.out) h3 hat ho3; have e7 := g1.blk.cell 7 _ rfl; have f7 := g1.blk.free 7; have hpl3 := g1.blk.lt; have G2 := Lib.hid g2; have G3 := Lib.hid g3; clear h3 hat ho3 g1 g2 g3))
  have hpp : PP (foot p X vl (.slice aw P.waits.length cw)) w (w3.setCell ⟨p, 7, none⟩ (.slice a3 (P.waits.eraseIdx i).length k3)) lo p P1 := ⟨X, vl, _, by rw [HP1.out]; exact G2.out, G3.out⟩
  have HPP := Lib.hid hpp
  clear hpp e7 f7 hpl3 d7 hpl
  generalize w3.setCell ⟨p, 7, none⟩ (.slice a3 (P.waits.eraseIdx i).length k3) = w4 at HPP ⊢
  go_wp2_with (go_at_call 30; (refine (serve_any HPP.out HK.out hk9 nn hnn (outs := []) (World.ownsRow_nil _ _ _ _) (by decide)).mono ?_); rintro e w5 ⟨v5, rfl, hs⟩; have HS := Lib.hid hs; clear hs)
  go_ret2
  exact ⟨_, rfl, AcP.of HV.out HS.out⟩
set_option maxRecDepth 100000 in
set_option maxHeartbeats 1600000 in
/-- A connection's number stands behind its cut. -/
theorem cut_num (h : Pw w lo p P X vl vw) {i b : Nat} {c : Cn} (hi : X[i]? = some (b, c)) (hl64 : X.length ≤ 64) :
    Calls Try.prog 29 #[ptr p, ptr b] w fun e w' => e = .returned (.tuple #[]) ∧ (PP (foot p X vl vw) w w' lo p (cutI P i) ∧ w'.cell? ⟨b, 0, none⟩ = some (.int .i64 c.num) ∧ b < w'.heap.size) := by
  have H := Lib.hid h
  have HI := Lib.hid hi
  clear h hi
  go_enter Try.func29, Try.ntmps29
  go_upto_region 1 with fail
  have hbx : Blk (w.alloc (Obj.cells #[ptr b] 65)) w.heap.size [ptr b] 65 := Blk.new w [ptr b] 65
  have hox : Only (fun _ => False) w (w.alloc (Obj.cells #[ptr b] 65)) := (Only.refl _ _).alloc _
  obtain ⟨q, hq⟩ : ∃ q, q = w.heap.size := ⟨_, rfl⟩
  rw [← hq] at hbx ⊢
  generalize w.alloc (Obj.cells #[ptr b] 65) = w1 at hbx hox ⊢
  have h1 := H.out.only hox (fun _ _ h => h)
  have c6 := h1.blk.cell 6 _ rfl
  have hpl := h1.blk.lt
  have hqv : vl.ownBlock ≠ some q := fun e => by have := (ownsRow_lt H.out.row q e).2; omega
  have H1 := Lib.hid h1
  have HD := Lib.hid (del_any h1.row (fun x hx => (h1.cn x hx).1) h1.ne HI.out hbx hqv hl64)
  have HOX := Lib.hid hox
  clear h1 hbx hox hq hqv
  go_wp2_with (go_at_call 53; (refine HD.out.mono ?_); rintro e w2 ⟨v2, rfl, hown, hat, hon⟩; obtain ⟨a2, k2, rfl, _, _, _, _⟩ := ownsRow_slice hown; have hb2 := H1.out.blk.only hon (fun e => H1.out.nl e); have d1 := hb2.cell 6 _ rfl; have f1 := hb2.free 6; have hpl2 := hb2.lt; have HW := Lib.hid hown; have HA := Lib.hid hat; have HN := Lib.hid hon; clear hown hat hon hb2)
  go_end0
  obtain ⟨g1, g2⟩ := H1.out.cutL HW.out HA.out HN.out
  obtain ⟨_, _, hbk, _⟩ := H1.out.cnAt_ HI.out
  have hbk2 := (hbk.only HN.out (H1.out.nlc _ (List.mem_of_getElem? HI.out))).only (only_p w2 p 6 (.slice a2 (X.eraseIdx i).length k2)) (H1.out.np _ (List.mem_of_getElem? HI.out))
  exact ⟨rfl, ⟨_, _, _, g1, (Mv.of_only HOX.out).trans g2⟩, hbk2.cell 0 _ rfl, hbk2.lt⟩
set_option maxRecDepth 100000 in
set_option maxHeartbeats 1600000 in
theorem drop_own (h : PP F w0 w lo p P) {k : Nat} (hk : Okp P k) (hk9 : k < 9223372036854775807) (nn : Nat) (hnn : nn ≤ 4611686018427387904) (who : Int) (hi : P.waits.findIdx? (fun x => decide (x = who)) = none) {i : Nat} (ho : ofI P who = some i) :
    Calls Try.prog 14 #[ptr p, .int .i64 nn, .int .i64 who] w fun e w' => ∃ v, e = .returned (.tuple #[v, .int .i64 0]) ∧ AcP F w0 w w' lo p (serve (cutI P i) nn).1 v (⟨5, (cnAt P.l i).num, who⟩ :: (serve (cutI P i) nn).2) := by
  have HM := Lib.hid (fun w => moment_ok nn w (by omega) (by omega))
  obtain ⟨X, vl, vw, hp, hmv⟩ := h
  have hix := index_any hp.wt who
  rw [hi] at hix
  simp only [idxV] at hix
  have d7 := hp.blk.cell 7 _ rfl
  have hpl := hp.blk.lt
  have hA := of_any hp who
  have hil := ofI_lt ho
  obtain ⟨b, hb⟩ := hp.at_ hil
  have hcp : cptr X (some i) = ptr b := by simp [cptr, List.getD_eq_getElem?_getD, hb]
  rw [ho, hcp] at hA
  have hcell : ∀ w', Only (fun _ => False) w w' → Calls Try.prog 29 #[ptr p, ptr b] w' (fun e w'' => e = .returned (.tuple #[]) ∧ (PP (foot p X vl vw) w' w'' lo p (cutI P i) ∧ w''.cell? ⟨b, 0, none⟩ = some (.int .i64 (cnAt P.l i).num) ∧ b < w''.heap.size)) := fun w' ho' => by
    have h' := hp.only ho' (fun _ _ h => h)
    exact cut_num h' hb (by rw [← hp.len]; exact hk.l64)
  have HC := Lib.hid hcell
  have HA := Lib.hid hA
  have HIX := Lib.hid hix
  have HP := Lib.hid hp
  have HV := Lib.hid hmv
  have HK := Lib.hid (cut_ok (i := i) hk)
  obtain ⟨P1, hP1⟩ : ∃ P1, P1 = cutI P i := ⟨_, rfl⟩
  rw [← hP1] at HK HC ⊢
  generalize (cnAt P.l i).num = nu at HC ⊢
  clear hp hmv hA ho hk hb hil hcp hcell hP1 hi hix
  go_enter Try.func14, Try.ntmps14
  go_upto_region 14 with (first
    | (go_at_call 23; (refine (HM.out _).mono ?_); rintro e w' ⟨rfl, rfl⟩)
    | (go_at_call 31; (refine HIX.out.mono ?_); rintro e w' ⟨rfl, rfl⟩)
    | (go_at_call 24; (refine HA.out.mono ?_); rintro e w2 ⟨rfl, hd⟩; have HD := Lib.hid hd; have HCUT := Lib.hid (HC.out w2 hd); clear hd)
    | (go_at_call 29; (refine HCUT.out.mono ?_); rintro e w3 ⟨rfl, hc, k0, hbl⟩; have HCC := Lib.hid (PP.then_ (Mv.of_only HD.out) hc); clear hc))
  have h4 := HCC.out
  have hrow := row_one w3 ⟨5, nu, who⟩ w.heap.size h4.size
  have HR := Lib.hid hrow
  have HPA := Lib.hid (h4.only0 ((Only.refl (fun _ => False) w3).alloc (Obj.cells #[.int .i64 5, .int .i64 nu, .int .i64 who] 27)))
  clear h4 hrow
  go_wp2_with (go_at_call 30; (refine (serve_any HPA.out HK.out hk9 nn hnn HR.out (by simp)).mono ?_); rintro e w5 ⟨v5, rfl, hs⟩; have HS := Lib.hid hs; clear hs)
  go_ret2
  exact ⟨_, rfl, AcP.of HV.out HS.out⟩
set_option maxRecDepth 100000 in
theorem drop_none (h : PP F w0 w lo p P) (nn : Nat) (hnn : nn ≤ 4611686018427387904) (who : Int) (hi : P.waits.findIdx? (fun x => decide (x = who)) = none) (ho : ofI P who = none) :
    Calls Try.prog 14 #[ptr p, .int .i64 nn, .int .i64 who] w fun e w' => e = .returned (.tuple #[.slice none 0 0, .int .i64 6]) ∧ PP F w0 w' lo p P := by
  have HM := Lib.hid (fun w => moment_ok nn w (by omega) (by omega))
  obtain ⟨X, vl, vw, hp, hmv⟩ := h
  have hix := index_any hp.wt who
  rw [hi] at hix
  simp only [idxV] at hix
  have d7 := hp.blk.cell 7 _ rfl
  have hpl := hp.blk.lt
  have hA := of_any hp who
  rw [ho] at hA
  simp only [cptr] at hA
  have HA := Lib.hid hA
  have HIX := Lib.hid hix
  have HP := Lib.hid hp
  have HV := Lib.hid hmv
  clear hp hmv hA ho hi hix
  go_enter Try.func14, Try.ntmps14
  go_wp2_with (first
    | (go_at_call 23; (refine (HM.out _).mono ?_); rintro e w' ⟨rfl, rfl⟩)
    | (go_at_call 31; (refine HIX.out.mono ?_); rintro e w' ⟨rfl, rfl⟩)
    | (go_at_call 24; (refine HA.out.mono ?_); rintro e w2 ⟨rfl, hd⟩; have HD := Lib.hid hd; clear hd))
  go_ret2
  exact ⟨rfl, PP.only0 ⟨X, vl, vw, HP.out, HV.out⟩ HD.out⟩
/-- Somebody needs none any more. -/
theorem drop_any (h : PP F w0 w lo p P) {k : Nat} (hk : Okp P k) (hk9 : k < 9223372036854775807) (now who : Int) :
    Calls Try.prog 14 #[ptr p, .int .i64 now, .int .i64 who] w fun e w' => ∃ v, e = .returned (.tuple #[v, .int .i64 (drop P now who).2.2]) ∧ AcP F w0 w w' lo p (drop P now who).1 v (drop P now who).2.1 := by
  unfold drop
  by_cases hm : isMoment now
  · rw [if_neg (fun e => e hm)]
    obtain ⟨nn, rfl⟩ : ∃ nn : Nat, now = nn := ⟨now.toNat, by have := hm.1; omega⟩
    have hnn : nn ≤ 4611686018427387904 := by have := hm.2; omega
    simp only [Int.toNat_natCast]
    cases hi : P.waits.findIdx? (fun x => decide (x = who)) with
    | some i => exact drop_wait h hk hk9 nn hnn who hi
    | none =>
      simp only
      cases ho : ofI P who with
      | none => exact (drop_none h nn hnn who hi ho).mono (by rintro e w' ⟨rfl, hP⟩; exact ⟨_, rfl, AcP.none hP⟩)
      | some i => exact drop_own h hk hk9 nn hnn who hi ho
  · rw [if_pos hm]
    have HM := Lib.hid (fun w => moment_bad now w (by unfold isMoment at hm; omega))
    have H := Lib.hid h
    clear h hk hm
    go_enter Try.func14, Try.ntmps14
    go_wp2_with (go_at_call 23; (refine (HM.out _).mono ?_); rintro e w' ⟨rfl, rfl⟩)
    go_ret2
    exact ⟨_, rfl, AcP.none H.out⟩
end
end Go.Proofs.Ytmpcffkandmacaa
