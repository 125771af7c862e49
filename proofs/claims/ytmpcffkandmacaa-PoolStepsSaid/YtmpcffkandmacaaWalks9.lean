/- Gone; Done. -/
import Derived.Test.YtmpcffkandmacaaWalks8
namespace Go.Proofs.Ytmpcffkandmacaa
open Go.RowKit
set_option linter.unusedVariables false
set_option linter.unusedSimpArgs false

theorem cut_ok {P : Pp} {k i : Nat} (h : Okp P k) : Okp (cutI P i) k :=
  ⟨⟨h.n.c, h.n.d, h.n.i, h.n.f⟩, fun c hc => h.t c (List.mem_of_mem_eraseIdx hc), by
    have := h.c
    have : (P.l.eraseIdx i).length ≤ P.l.length := by rw [List.length_eraseIdx]; split <;> omega
    show (P.l.eraseIdx i).length ≤ P.cap
    omega, h.p, h.x, h.r⟩
theorem rest_ok {P : Pp} {k i now : Nat} (h : Okp P k) (hi : i < P.l.length) (hn : now ≤ 4611686018427387904) : Okp (restI P i now) (k + 1) := by
  have hr := h.r
  have hx := h.x
  exact ⟨⟨h.n.c, h.n.d, h.n.i, h.n.f⟩, okT_set h.t (i := i) rfl ⟨hn, (h.t _ (cnAt_mem hi)).2.1, Nat.le_refl 2⟩, by
    show (P.l.set i _).length ≤ P.cap
    rw [List.length_set]
    exact h.c, h.p, Nat.le_succ_of_le hx, Nat.succ_le_succ hr⟩

section
variable {F : Nat → Prop} {w0 w : World} {lo p : Nat} {P : Pp} {X : List (Nat × Cn)} {vl vw : Value}
structure AcP (F : Nat → Prop) (w0 w w' : World) (lo p : Nat) (P : Pp) (v : Value) (o : List Ac) : Prop where
  pp : PP F w0 w' lo p P
  row : w'.ownsRow w.heap.size 27 3 v o.length (acCells o)
theorem AcP.none {w' : World} (h : PP F w0 w' lo p P) : AcP F w0 w w' lo p P (.slice none 0 0) [] := ⟨h, World.ownsRow_nil _ _ _ _⟩
theorem AcP.of {w' : World} {P' : Pp} {v : Value} {o : List Ac} (hm : Mv F (foot p X vl vw) w0 w) (h : SvP (foot p X vl vw) w w' lo p P' v o) : AcP F w0 w w' lo p P' v o := ⟨PP.then_ hm h.pp, h.row⟩
theorem row_one (w : World) (x : Ac) (lo : Nat) (hl : lo ≤ w.heap.size) : (w.alloc (Obj.cells #[.int .i64 x.kind, .int .i64 x.conn, .int .i64 x.who] 27)).ownsRow lo 27 3 (.slice (some ⟨w.heap.size, 0, Option.none⟩) 1 1) [x].length (acCells [x]) :=
  ownsRow_lower (World.ownsRow_lit w #[.int .i64 x.kind, .int .i64 x.conn, .int .i64 x.who] 1 (Nat.le_refl _) (by unfold maxLen; omega) rfl) hl
set_option maxRecDepth 100000 in
set_option maxHeartbeats 1600000 in
theorem gone_any (h : PP F w0 w lo p P) {k : Nat} (hk : Okp P k) (hk9 : k < 9223372036854775807) (now n : Int) :
    Calls Try.prog 36 #[ptr p, .int .i64 now, .int .i64 n] w fun e w' => ∃ v, e = .returned (.tuple #[.int .i64 (gone P now n).2.1, v, .int .i64 (gone P now n).2.2.2]) ∧ AcP F w0 w w' lo p (gone P now n).1 v (gone P now n).2.2.1 := by
  unfold gone
  by_cases hm : isMoment now
  · rw [if_neg (fun e => e hm)]
    obtain ⟨nn, rfl⟩ : ∃ nn : Nat, now = nn := ⟨now.toNat, by have := hm.1; omega⟩
    have hnn : nn ≤ 4611686018427387904 := by have := hm.2; omega
    have HM := Lib.hid (fun w => moment_ok nn w hm.1 hm.2)
    obtain ⟨X, vl, vw, hp, hmv⟩ := h
    have hA := at_any hp n
    cases ha : atI P n with
    | none =>
      rw [ha] at hA
      simp only [cptr] at hA
      have HA := Lib.hid hA
      have HP := Lib.hid hp
      have HV := Lib.hid hmv
      clear hp hmv hA ha hk hm
      simp only
      go_enter Try.func36, Try.ntmps36
      go_wp2_with (first
        | (go_at_call 23; (refine (HM.out _).mono ?_); rintro e w' ⟨rfl, rfl⟩)
        | (go_at_call 27; (refine HA.out.mono ?_); rintro e w2 ⟨rfl, hd⟩; have HD := Lib.hid hd; clear hd))
      go_ret3
      exact ⟨_, rfl, AcP.none (PP.only0 ⟨X, vl, vw, HP.out, HV.out⟩ HD.out)⟩
    | some i =>
      have hil := atI_lt ha
      obtain ⟨b, hb⟩ := hp.at_ hil
      have hcp : cptr X (some i) = ptr b := by simp [cptr, List.getD_eq_getElem?_getD, hb]
      rw [ha, hcp] at hA
      simp only [Int.toNat_natCast]
      have hcell : ∀ w', Only (fun _ => False) w w' → w'.cell? ⟨b, 1, none⟩ = some (.int .i64 (cnAt P.l i).st) ∧ w'.cell? ⟨b, 2, none⟩ = some (.int .i64 (cnAt P.l i).who) ∧ b < w'.heap.size ∧ Calls Try.prog 29 #[ptr p, ptr b] w' (fun e w'' => e = .returned (.tuple #[]) ∧ PP (foot p X vl vw) w' w'' lo p (cutI P i)) := fun w' ho => by
        have h' := hp.only ho (fun _ _ h => h)
        obtain ⟨_, _, hbk, _⟩ := h'.cnAt_ hb
        exact ⟨hbk.cell 1 _ rfl, hbk.cell 2 _ rfl, hbk.lt, cut_any h' hb (by rw [← hp.len]; exact hk.l64)⟩
      have HC := Lib.hid hcell
      have HA := Lib.hid hA
      have HP := Lib.hid hp
      have HV := Lib.hid hmv
      have HK := Lib.hid (cut_ok (i := i) hk)
      obtain ⟨P1, hP1⟩ : ∃ P1, P1 = cutI P i := ⟨_, rfl⟩
      rw [← hP1] at HK HC ⊢
      obtain ⟨ow, how⟩ : ∃ ow, ow = if (cnAt P.l i).st = 2 then -1 else (cnAt P.l i).who := ⟨_, rfl⟩
      rw [← how]
      have HOW := Lib.hid how
      generalize (cnAt P.l i).who = who at HC HOW
      clear hp hmv hA ha hk hm hb hil hcp hcell hP1 how
      by_cases hst : (cnAt P.l i).st = 2
      · have how : ow = -1 := by rw [HOW.out, if_pos hst]
        subst how
        rw [hst] at HC
        clear hst HOW
        go_enter Try.func36, Try.ntmps36
        go_wp2_with (first
          | (go_at_call 23; (refine (HM.out _).mono ?_); rintro e w' ⟨rfl, rfl⟩)
          | (go_at_call 27; (refine HA.out.mono ?_); rintro e w2 ⟨rfl, hd⟩; have HD := Lib.hid hd; obtain ⟨k1, k2, hbl, hcut⟩ := HC.out w2 hd; have HCUT := Lib.hid hcut; clear hd hcut)
          | (go_at_call 29; (refine HCUT.out.mono ?_); rintro e w3 ⟨rfl, hc⟩; have HCC := Lib.hid (PP.then_ (Mv.of_only HD.out) hc); clear hc)
          | (go_at_call 30; (refine (serve_any HCC.out HK.out hk9 nn hnn (outs := []) (World.ownsRow_nil _ _ _ _) (by decide)).mono ?_); rintro e w4 ⟨v4, rfl, hs⟩; have HS := Lib.hid hs; clear hs))
        go_ret3
        exact ⟨_, rfl, AcP.of HV.out HS.out⟩
      · have how : ow = who := by rw [HOW.out, if_neg hst]
        subst how
        have f1 : (((cnAt P.l i).st : Int) == 2) = false := beq_eq_false_iff_ne.2 (by omega)
        generalize (cnAt P.l i).st = s at f1 HC
        clear hst HOW
        go_enter Try.func36, Try.ntmps36
        go_wp2_with (first
          | (go_at_call 23; (refine (HM.out _).mono ?_); rintro e w' ⟨rfl, rfl⟩)
          | (go_at_call 27; (refine HA.out.mono ?_); rintro e w2 ⟨rfl, hd⟩; have HD := Lib.hid hd; obtain ⟨k1, k2, hbl, hcut⟩ := HC.out w2 hd; have HCUT := Lib.hid hcut; clear hd hcut)
          | (go_at_call 29; (refine HCUT.out.mono ?_); rintro e w3 ⟨rfl, hc⟩; have HCC := Lib.hid (PP.then_ (Mv.of_only HD.out) hc); clear hc)
          | (go_at_call 30; (refine (serve_any HCC.out HK.out hk9 nn hnn (outs := []) (World.ownsRow_nil _ _ _ _) (by decide)).mono ?_); rintro e w4 ⟨v4, rfl, hs⟩; have HS := Lib.hid hs; clear hs))
        go_ret3
        exact ⟨_, rfl, AcP.of HV.out HS.out⟩
  · rw [if_pos hm]
    have HM := Lib.hid (fun w => moment_bad now w (by unfold isMoment at hm; omega))
    have H := Lib.hid h
    clear h hk hm
    go_enter Try.func36, Try.ntmps36
    go_wp2_with (go_at_call 23; (refine (HM.out _).mono ?_); rintro e w' ⟨rfl, rfl⟩)
    go_ret3
    exact ⟨_, rfl, AcP.none H.out⟩
end
end Go.Proofs.Ytmpcffkandmacaa
