/- Up; Size. -/
import Derived.Test.YtmpcffkandmacaaWalks6
namespace Go.Proofs.Ytmpcffkandmacaa
open Go.RowKit
set_option linter.unusedVariables false
set_option linter.unusedSimpArgs false

section
variable {F : Nat → Prop} {w0 w : World} {lo p : Nat} {P : Pp} {X : List (Nat × Cn)} {vl vw : Value}
theorem up_none (h : PP F w0 w lo p P) (n : Int) (hn : up P n = (P, 0, 6)) (hi : ∀ i, atI P n = some i → (cnAt P.l i).st ≠ 0) :
    Calls Try.prog 10 #[ptr p, .int .i64 n] w fun e w' => e = .returned (.tuple #[.int .i64 0, .int .i64 6]) ∧ PP F w0 w' lo p P := by
  obtain ⟨X, vl, vw, h, hm⟩ := h
  have hA := at_any h n
  cases ha : atI P n with
  | none =>
    rw [ha] at hA
    simp only [cptr] at hA
    have HA := Lib.hid hA
    have H := Lib.hid h
    have HM := Lib.hid hm
    clear h hm hA hn hi ha
    go_enter Try.func10, Try.ntmps10
    go_wp2_with (go_at_call 27; (refine HA.out.mono ?_); rintro e w2 ⟨rfl, hd⟩; have HD := Lib.hid hd; clear hd)
    go_ret2
    exact ⟨rfl, (PP.only0 ⟨X, vl, vw, H.out, HM.out⟩ HD.out)⟩
  | some i =>
    have hil := atI_lt ha
    obtain ⟨b, hb⟩ := h.at_ hil
    have hcp : cptr X (some i) = ptr b := by simp [cptr, List.getD_eq_getElem?_getD, hb]
    rw [ha, hcp] at hA
    have hst := hi i ha
    have f1 : (((cnAt P.l i).st : Int) == 0) = false := beq_eq_false_iff_ne.2 (by omega)
    have f2 : (((cnAt P.l i).st : Int) != 0) = true := by rw [bne, f1]; rfl
    have hcell : ∀ w', Only (fun _ => False) w w' → w'.cell? ⟨b, 1, none⟩ = some (.int .i64 (cnAt P.l i).st) ∧ b < w'.heap.size := fun w' ho => by
      obtain ⟨_, _, hbk, _⟩ := (h.only ho (fun _ _ h => h)).cnAt_ hb
      exact ⟨hbk.cell 1 _ rfl, hbk.lt⟩
    have HC := Lib.hid hcell
    have HA := Lib.hid hA
    have H := Lib.hid h
    have HM := Lib.hid hm
    generalize (cnAt P.l i).st = s at f1 f2 HC
    clear h hm hA hn hi ha hcp hcell hst hil hb
    go_enter Try.func10, Try.ntmps10
    go_wp2_with (go_at_call 27; (refine HA.out.mono ?_); rintro e w2 ⟨rfl, hd⟩; have HD := Lib.hid hd; obtain ⟨k1, hbl⟩ := HC.out w2 hd; clear hd)
    go_ret2
    exact ⟨rfl, (PP.only0 ⟨X, vl, vw, H.out, HM.out⟩ HD.out)⟩
theorem up_some (h : PP F w0 w lo p P) (n : Int) {i : Nat} (ha : atI P n = some i) (hst : (cnAt P.l i).st = 0) :
    Calls Try.prog 10 #[ptr p, .int .i64 n] w fun e w' => e = .returned (.tuple #[.int .i64 (cnAt P.l i).who, .int .i64 0]) ∧ PP F w0 w' lo p { P with l := P.l.set i { cnAt P.l i with st := 1 } } := by
  obtain ⟨X, vl, vw, h, hm⟩ := h
  have hA := at_any h n
  have hil := atI_lt ha
  obtain ⟨b, hb⟩ := h.at_ hil
  have hcp : cptr X (some i) = ptr b := by simp [cptr, List.getD_eq_getElem?_getD, hb]
  rw [ha, hcp] at hA
  obtain ⟨P1, hP1⟩ : ∃ P1, P1 = { P with l := P.l.set i { cnAt P.l i with st := 1 } } := ⟨_, rfl⟩
  rw [← hP1]
  obtain ⟨c, hc⟩ : ∃ c, c = cnAt P.l i := ⟨_, rfl⟩
  rw [← hc] at hb hP1 hst ⊢
  have HA := Lib.hid hA
  have H := Lib.hid h
  have HM := Lib.hid hm
  have HB := Lib.hid hb
  have HP1 := Lib.hid hP1
  have HST := Lib.hid hst
  obtain ⟨who, hwho⟩ : ∃ who, who = c.who := ⟨_, rfl⟩
  rw [← hwho]
  have HWHO := Lib.hid hwho
  clear h hm hA ha hcp hil hb hc hP1 hst hwho
  go_enter Try.func10, Try.ntmps10
  go_upto_region 2 with (go_at_call 27; (refine HA.out.mono ?_); rintro e w2 ⟨rfl, hd⟩; have HD := Lib.hid hd; clear hd)
  have h2 := H.out.only HD.out (fun _ _ h => h)
  obtain ⟨_, _, hbk, _⟩ := h2.cnAt_ HB.out
  have k1 := hbk.cell 1 _ rfl
  have f1 := hbk.free 1
  have hbl := hbk.lt
  have k2 := ((hbk.set 1 (.int .i64 1)).cell 2 _ rfl)
  have hbl2 := (hbk.set 1 (.int .i64 1)).lt
  rw [HST.out] at k1
  rw [← HWHO.out] at k2
  have H2 := Lib.hid h2
  clear h2 hbk
  go_upto_region 5 with fail
  obtain ⟨h3, m3⟩ := H2.out.setC_mv HB.out (j := 1) (u := .int .i64 1) (c' := { c with st := 1 }) rfl
  have H3 := Lib.hid h3
  have M3 := Lib.hid m3
  clear h3 m3 k1 f1 hbl
  generalize w2.setCell ⟨b, 1, none⟩ (.int .i64 1) = w3 at k2 hbl2 H3 M3 ⊢
  go_wp2
  go_ret2
  refine ⟨rfl, _, vl, vw, ?_, (HM.out.trans (Mv.of_only HD.out)).trans M3.out⟩
  rw [HP1.out]
  exact H3.out
/-- A connection is there. -/
theorem up_any (h : PP F w0 w lo p P) (n : Int) :
    Calls Try.prog 10 #[ptr p, .int .i64 n] w fun e w' => e = .returned (.tuple #[.int .i64 (up P n).2.1, .int .i64 (up P n).2.2]) ∧ PP F w0 w' lo p (up P n).1 := by
  unfold up
  cases ha : atI P n with
  | none => exact up_none h n (by unfold up; rw [ha]) (fun i hi => by rw [ha] at hi; cases hi)
  | some i =>
    simp only
    by_cases hst : (cnAt P.l i).st = 0
    · rw [if_pos hst]; exact up_some h n ha hst
    · rw [if_neg hst]
      exact up_none h n (by unfold up; rw [ha]; simp only [if_neg hst]) (fun j hj => by rw [ha] at hj; injection hj with hj; rw [← hj]; exact hst)
theorem up_nil (n : Int) (w : World) : Calls Try.prog 10 #[.pointer none, .int .i64 n] w fun e w' => e = .returned (.tuple #[.int .i64 0, .int .i64 6]) ∧ Only (fun _ => False) w w' := by
  go_enter Try.func10, Try.ntmps10
  go_wp2_with (go_at_call 27; (refine (at_nil _ _).mono ?_); rintro e w2 ⟨rfl, hd⟩; have HD := Lib.hid hd; clear hd)
  go_ret2
  exact ⟨rfl, HD.out⟩

theorem resting_succ {l : List Cn} {j : Nat} (h : j < l.length) : resting (l.take (j + 1)) = resting (l.take j) + if (cnAt l j).st = 2 then 1 else 0 := by
  unfold resting
  rw [List.take_succ_eq_append_getElem h, List.filter_append, List.length_append, cnAt_eq h]
  congr 1
  by_cases hs : l[j].st = 2
  · simp [hs]
  · simp [hs]
set_option maxRecDepth 100000 in
set_option maxHeartbeats 800000 in
theorem size_any (h : PP F w0 w lo p P) :
    Calls Try.prog 12 #[ptr p] w fun e w' => e = .returned (.tuple #[.int .i64 (P.l.length : Nat), .int .i64 (resting P.l : Nat), .int .i64 (P.waits.length : Nat)]) ∧ Only (fun _ => False) w w' := by
  obtain ⟨X, vl, vw, h, hm⟩ := h
  obtain ⟨n, hnl⟩ : ∃ n, n = P.l.length := ⟨_, rfl⟩
  have hnx : n = X.length := hnl.trans h.len
  obtain ⟨ao, cap, rfl, h1, h2, _, h4⟩ := ownsRow_slice h.row
  have hcm : cap ≤ 9223372036854775807 := by unfold maxLen at h2; omega
  obtain ⟨res, hres⟩ : ∃ res, res = resting P.l := ⟨_, rfl⟩
  rw [← hres, ← hnl]
  rw [← hnx] at h1 h
  have c6 := h.blk.cell 6 _ rfl
  have hpl := h.blk.lt
  obtain ⟨nw, hnw⟩ : ∃ nw, nw = P.waits.length := ⟨_, rfl⟩
  obtain ⟨aw, cw, rfl, hw1, hw2, _, _⟩ := h.wt.slice
  rw [← hnw]
  rw [← hnw] at hw1
  have c7 := h.blk.cell 7 _ rfl
  rw [← hnw] at c7
  have hcw : cw ≤ 9223372036854775807 := by unfold maxLen at hw2; omega
  have HNW := Lib.hid hnw
  have H := Lib.hid h
  have HNL := Lib.hid hnl
  have HNX := Lib.hid hnx
  have HRES := Lib.hid hres
  clear h hnl hnx h2 h4 hres hnw hm hw2
  go_enter Try.func12, Try.ntmps12
  go_upto_region 5 with fail
  go_loopw [5, 7, 15] (fun o _ i wr => ∃ j : Nat, j ≤ n ∧ i = .int .i64 j ∧ o = .int .i64 (resting (P.l.take j) : Nat) ∧ Only (fun _ => False) w wr) (fun _ _ i _ => n - (intOf i).toNat)
  case atStart => exact ⟨0, Nat.zero_le _, rfl, rfl, Only.refl _ _⟩
  case round =>
    obtain ⟨j, hj, rfl, rfl, hD⟩ := hrel
    have hR := H.out.only hD (fun _ _ h => h)
    have HD := Lib.hid hD
    by_cases hlt : j < n
    · have hjl : j < P.l.length := by rw [← HNL.out]; exact hlt
      have hrl : resting (P.l.take j) ≤ j := Nat.le_trans (List.length_filter_le _ _) (by rw [List.length_take]; omega)
      obtain ⟨b, hb⟩ := hR.at_ hjl
      obtain ⟨_, _, hbk, _⟩ := hR.cnAt_ hb
      obtain ⟨ao', cap', e, _, _, k⟩ := pRow_of (X := X) (v := .slice ao X.length cap) (by have := hR.row; rwa [HNX.out] at this)
      injection e with e1 _ e3
      subst e1 e3
      obtain ⟨g, rfl, hgl, hcc⟩ := k (by rw [← HNX.out]; omega)
      have c0 := hcc j _ hb
      simp only at c0
      have k1 := hbk.cell 1 _ rfl
      have hbl := hbk.lt
      have hrs := resting_succ hjl
      have HRS := Lib.hid hrs
      by_cases hs : (cnAt P.l j).st = 2
      · rw [if_pos hs] at hrs
        rw [hs] at k1
        have HS := Lib.hid hrs
        generalize resting (P.l.take j) = r at hrl HS ⊢
        clear hrs hs k hcc hbk hb hR hD
        go_wp2
        go_roundw
        case rel => exact ⟨j + 1, by omega, by go_num, by rw [HS.out]; go_num, HD.out⟩
        case measure => simp [intOf]; omega
      · rw [if_neg hs] at hrs
        have f1 : (((cnAt P.l j).st : Int) == 2) = false := beq_eq_false_iff_ne.2 (by omega)
        have HS := Lib.hid hrs
        generalize (cnAt P.l j).st = s at k1 f1
        generalize resting (P.l.take j) = r at hrl HS ⊢
        clear hrs hs k hcc hbk hb hR hD
        go_wp2
        go_roundw
        case rel => exact ⟨j + 1, by omega, by go_num, by rw [HS.out]; go_num, HD.out⟩
        case measure => simp [intOf]; omega
    · have hjn : j = n := by omega
      have hr : resting (P.l.take j) = res := by rw [HRES.out, hjn, HNL.out, List.take_length]
      rw [hr]
      have d6 : wr.cell? ⟨p, 6, none⟩ = some (.slice ao n cap) := hR.blk.cell 6 _ rfl
      have d7 : wr.cell? ⟨p, 7, none⟩ = some (.slice aw nw cw) := by have := hR.blk.cell 7 _ rfl; rwa [← HNW.out] at this
      have hpl2 := hR.blk.lt
      clear hr hR hD
      go_wp2
      go_quiet (fail)
      go_wp2
      go_ret3
      exact ⟨rfl, HD.out.trans ((Drawn.of wr _).only _) (fun _ _ h => h)⟩
theorem size_nil (w : World) : Calls Try.prog 12 #[.pointer none] w fun e w' => e = .returned (.tuple #[.int .i64 0, .int .i64 0, .int .i64 0]) ∧ w = w' := by
  go_enter Try.func12, Try.ntmps12
  go_wp2
  go_ret3
  exact ⟨rfl, rfl⟩
end
end Go.Proofs.Ytmpcffkandmacaa
