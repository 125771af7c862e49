/- Index, Contains; best; Size. -/
import Derived.Test.YtmpcffkandmacaaWalks2
namespace Go.Proofs.Ytmpcffkandmacaa
open Go.RowKit
set_option linter.unusedVariables false
set_option linter.unusedSimpArgs false

section
variable {w : World} {lo p : Nat} {P : Pp} {X : List (Nat × Cn)} {vl vw : Value}
theorem index_any {l : List Int} {v : Value} (h : WRow w lo v l) (who : Int) : Calls Try.prog 31 #[v, .int .i64 who] w fun e w' => e = .returned (.int .i64 (idxV (l.findIdx? fun x => decide (x = who)))) ∧ w = w' := by
  obtain ⟨ao, cap, rfl, h1, h2, _, h4⟩ := h.slice
  obtain ⟨n, hn⟩ : ∃ n, n = l.length := ⟨_, rfl⟩
  obtain ⟨r, hr⟩ : ∃ r, r = idxV (l.findIdx? fun x => decide (x = who)) := ⟨_, rfl⟩
  rw [← hr]
  rw [← hn] at h1 h4 ⊢
  have hcm : cap ≤ 9223372036854775807 := by unfold maxLen at h2; omega
  have H4 := Lib.hid h4
  have HR := Lib.hid hr
  have HN := Lib.hid hn
  clear h h2 h4 hr hn
  go_enter Try.func31, Try.ntmps31
  go_wp2
  go_loop [5, 8] (fun _ i => ∃ j : Nat, j ≤ n ∧ i = .int .i64 j ∧ ∀ k, k < j → l.getD k 0 ≠ who) (fun _ i => n - (intOf i).toNat)
  case atStart => exact ⟨0, Nat.zero_le _, rfl, fun k hk => absurd hk (by omega)⟩
  case round =>
    obtain ⟨j, hj, rfl, hF⟩ := hrel
    have HF := Lib.hid hF
    clear hF
    by_cases hlt : j < n
    · obtain ⟨g, off, rfl, _, hgl, hc⟩ := H4.out (by omega)
      have c0 := hc j hlt
      obtain ⟨x, hx⟩ : ∃ x, x = l.getD j 0 := ⟨_, rfl⟩
      rw [← hx] at c0
      have HX := Lib.hid hx
      clear hc hx
      by_cases hxw : who = x
      · subst hxw
        go_wp2
        go_ret
        refine ⟨ret_int ?_, rfl⟩
        rw [HR.out]
        have hfi : l.findIdx? (fun x => decide (x = who)) = some j := by
          rw [List.findIdx?_eq_some_iff_getElem]
          have hjl : j < l.length := by rw [← HN.out]; exact hlt
          refine ⟨hjl, ?_, fun k hk => ?_⟩
          · have := HX.out
            rw [List.getD_eq_getElem?_getD, List.getElem?_eq_getElem hjl] at this
            exact decide_eq_true this.symm
          · have := HF.out k hk
            rw [List.getD_eq_getElem?_getD, List.getElem?_eq_getElem (by omega)] at this
            simpa using this
        rw [hfi]
        rfl
      · have f1 : (who == x) = false := beq_eq_false_iff_ne.2 hxw
        have HXW := Lib.hid hxw
        clear hxw
        go_wp2
        go_round
        case rel =>
          refine ⟨j + 1, by omega, by go_num, fun k hk => ?_⟩
          rcases (show k < j ∨ k = j by omega) with h | rfl
          · exact HF.out k h
          · rw [← HX.out]; exact fun e => HXW.out e.symm
        case measure => simp [intOf]; omega
    · have hnone : l.findIdx? (fun x => decide (x = who)) = none := by
        rw [List.findIdx?_eq_none_iff]
        intro x hx
        obtain ⟨k, hk, rfl⟩ := List.getElem_of_mem hx
        have := HF.out k (by have := HN.out; omega)
        rw [List.getD_eq_getElem?_getD, List.getElem?_eq_getElem hk] at this
        exact decide_eq_false this
      have HNO := Lib.hid hnone
      clear hnone
      go_wp2
      go_ret
      exact ⟨ret_int (by rw [HR.out, HNO.out]; rfl), rfl⟩
theorem idxV_mem {l : List Int} {who : Int} : decide (0 ≤ idxV (l.findIdx? fun x => decide (x = who))) = decide (who ∈ l) := by
  by_cases h : who ∈ l
  · rw [decide_eq_true h]
    cases hf : l.findIdx? (fun x => decide (x = who)) with
    | none =>
      rw [List.findIdx?_eq_none_iff] at hf
      have := hf who h
      simp at this
    | some i => exact decide_eq_true (by unfold idxV; simp only; omega)
  · rw [decide_eq_false h]
    cases hf : l.findIdx? (fun x => decide (x = who)) with
    | none => rfl
    | some i =>
      rw [List.findIdx?_eq_some_iff_getElem] at hf
      obtain ⟨hi, he, _⟩ := hf
      exact absurd (by have := of_decide_eq_true he; rw [← this]; exact List.getElem_mem hi) h
theorem contains_any {l : List Int} {v : Value} (h : WRow w lo v l) (who : Int) : Calls Try.prog 25 #[v, .int .i64 who] w fun e w' => e = .returned (.bool (decide (who ∈ l))) ∧ w = w' := by
  have hi := index_any h who
  have e0 := idxV_mem (l := l) (who := who)
  obtain ⟨ao, cap, rfl, _, _, _, _⟩ := h.slice
  obtain ⟨r, hr⟩ : ∃ r, r = idxV (l.findIdx? fun x => decide (x = who)) := ⟨_, rfl⟩
  rw [← hr] at hi e0
  rw [← e0]
  have HI := Lib.hid hi
  clear h hi hr e0
  by_cases h0 : 0 ≤ r
  · have f0 : decide (0 ≤ r) = true := decide_eq_true h0
    rw [f0]
    go_enter Try.func25, Try.ntmps25
    go_wp2_with (go_at_call 31; (refine HI.out.mono ?_); rintro e w' ⟨rfl, rfl⟩)
    go_ret
    exact ⟨rfl, rfl⟩
  · have f0 : decide (0 ≤ r) = false := decide_eq_false h0
    rw [f0]
    go_enter Try.func25, Try.ntmps25
    go_wp2_with (go_at_call 31; (refine HI.out.mono ?_); rintro e w' ⟨rfl, rfl⟩)
    go_ret
    exact ⟨rfl, rfl⟩

/-- Moments are moments. -/
def OkT (P : Pp) : Prop := ∀ c ∈ P.l, c.since ≤ 4611686018427387904 ∧ c.born ≤ 4611686018427387904 ∧ c.st ≤ 2
theorem Pw.okt (h : Pw w lo p P X vl vw) (ht : OkT P) {i b : Nat} {c : Cn} (hi : X[i]? = some (b, c)) : c.since ≤ 4611686018427387904 ∧ c.born ≤ 4611686018427387904 ∧ c.st ≤ 2 := by
  obtain ⟨h1, h2, _⟩ := h.cnAt_ hi
  rw [← h2]
  exact ht _ (cnAt_mem h1)
set_option maxRecDepth 100000 in
set_option maxHeartbeats 1600000 in
theorem best_any (h : Pw w lo p P X vl vw) (hn : OkN P) (ht : OkT P) (now : Nat) : Calls Try.prog 49 #[ptr p, .int .i64 now] w fun e w' => e = .returned (cptr X (bestU P now P.l.length)) ∧ Drawn w w' := by
  obtain ⟨n, hnl⟩ : ∃ n, n = P.l.length := ⟨_, rfl⟩
  have hnx : n = X.length := hnl.trans h.len
  obtain ⟨ao, cap, rfl, h1, h2, _, h4⟩ := ownsRow_slice h.row
  have hcm : cap ≤ 9223372036854775807 := by unfold maxLen at h2; omega
  obtain ⟨res, hres⟩ : ∃ res, res = cptr X (bestU P now P.l.length) := ⟨_, rfl⟩
  rw [← hres]
  rw [← hnx] at h1 h
  have c6 := h.blk.cell 6 _ rfl
  have hpl := h.blk.lt
  have H := Lib.hid h
  have HT := Lib.hid ht
  have HN := Lib.hid hn
  have HNL := Lib.hid hnl
  have HNX := Lib.hid hnx
  have HRES := Lib.hid hres
  clear h hn ht hnl hnx h2 h4 hres
  go_enter Try.func49, Try.ntmps49
  go_upto_region 3 with fail
  clear c6 hpl
  go_loopw [5, 7, 13] (fun o _ i wr => ∃ j : Nat, j ≤ n ∧ i = .int .i64 j ∧ o = cptr X (bestU P now j) ∧ Drawn w wr) (fun _ _ i _ => n - (intOf i).toNat)
  case atStart => exact ⟨0, Nat.zero_le _, rfl, rfl, Drawn.refl _⟩
  case round =>
    obtain ⟨j, hj, rfl, rfl, hD⟩ := hrel
    have HD := Lib.hid hD
    have hR := H.out.only (hD.only (fun _ => False)) (fun _ _ h => h)
    clear hD
    by_cases hlt : j < n
    · have hjl : j < P.l.length := by rw [← HNL.out]; exact hlt
      obtain ⟨b, hb⟩ := hR.at_ hjl
      obtain ⟨c, hc⟩ : ∃ c, c = cnAt P.l j := ⟨_, rfl⟩
      rw [← hc] at hb
      obtain ⟨_, _, hbk, _⟩ := hR.cnAt_ hb
      obtain ⟨ht1, ht2, ht3⟩ := hR.okt HT.out hb
      obtain ⟨ao', cap', e, _, _, k⟩ := pRow_of (X := X) (v := .slice ao X.length cap) (by have := hR.row; rwa [HNX.out] at this)
      injection e with e1 _ e3
      subst e1 e3
      obtain ⟨g, rfl, hgl, hcc⟩ := k (by rw [← HNX.out]; omega)
      have c0 := hcc j _ hb
      simp only at c0
      have k1 := hbk.cell 1 _ rfl
      have k5 := hbk.cell 5 _ rfl
      have hbl := hbk.lt
      have HEND := Lib.hid (fun (w' : World) (hd : Drawn wr w') => end_any (hR.only (hd.only (fun _ => False)) (fun _ _ h => h)) HN.out hb ht1 ht2)
      have HRR := Lib.hid hR
      have HBB := Lib.hid hb
      have hstep : bestU P now (j + 1) = if good P now c && beats P (bestU P now j) c then some j else bestU P now j := by rw [hc]; rfl
      have HST := Lib.hid hstep
      have hjb : cptr X (some j) = ptr b := by simp [cptr, List.getD_eq_getElem?_getD, hb]
      have HJB := Lib.hid hjb
      clear hR hbk hb hc k hcc hstep hjb ht1 ht2
      obtain ⟨en, hen⟩ : ∃ en, en = endC P c := ⟨_, rfl⟩
      rw [← hen] at HEND
      have HEN := Lib.hid hen
      clear hen
      obtain ⟨o, ho⟩ : ∃ o, o = bestU P now j := ⟨_, rfl⟩
      rw [← ho] at HST ⊢
      have HO := Lib.hid ho
      go_upto_region 5 with fail
      by_cases hs : c.st = 2
      · by_cases hg : now < en
        · have f2 : decide ((now : Int) < (en : Int)) = true := decide_eq_true (by omega)
          have f2n : decide (now < en) = true := decide_eq_true hg
          have hgood : good P now c = true := by unfold good; rw [decide_eq_true hs, ← HEN.out, f2n]; rfl
          cases o with
          | none =>
            have hnew : bestU P now (j + 1) = some j := by rw [HST.out, hgood]; rfl
            have HNEW := Lib.hid hnew
            rw [hs] at k1
            clear hnew hgood ho
            simp only [cptr]
            go_quiet ((go_at_call 35; refine (HEND.out _ (Drawn.of wr _)).mono ?_; rintro e w' ⟨rfl, hd⟩; exact ⟨rfl, (Drawn.of wr _).trans hd⟩))
            go_wp2
            go_roundw
            case rel => exact ⟨j + 1, by omega, by go_num, by rw [HNEW.out, HJB.out], HD.out.trans (Drawn.of _ _)⟩
            case measure => simp [intOf]; omega
          | some o =>
            have hoj := bestU_lt ho.symm
            have hol : o < P.l.length := by omega
            obtain ⟨b2, hb2⟩ := HRR.out.at_ hol
            obtain ⟨c2, hc2⟩ : ∃ c2, c2 = cnAt P.l o := ⟨_, rfl⟩
            rw [← hc2] at hb2
            obtain ⟨_, _, hbk2, _⟩ := HRR.out.cnAt_ hb2
            have m5 := hbk2.cell 5 _ rfl
            have hbl2 := hbk2.lt
            have ho2 : cptr X (some o) = ptr b2 := by simp [cptr, List.getD_eq_getElem?_getD, hb2]
            have HO2 := Lib.hid ho2
            rw [ho2]
            have hbeats : beats P (some o) c = decide (c2.nth < c.nth) := by rw [hc2]; rfl
            have HBE := Lib.hid hbeats
            rw [hs] at k1
            clear hbk2 hb2 hc2 hol hoj ho ho2 hbeats
            generalize hcn : c.nth = x at k5
            generalize hcn2 : c2.nth = y at m5
            have HX := Lib.hid hcn
            have HY := Lib.hid hcn2
            clear hcn hcn2
            by_cases hxy : y < x
            · have f3 : decide ((y : Int) < (x : Int)) = true := decide_eq_true (by omega)
              have f3n : decide (y < x) = true := decide_eq_true hxy
              have hnew : bestU P now (j + 1) = some j := by rw [HST.out, hgood, HBE.out, HX.out, HY.out, f3n]; rfl
              have HNEW := Lib.hid hnew
              clear hnew hgood
              go_quiet ((go_at_call 35; refine (HEND.out _ (Drawn.of wr _)).mono ?_; rintro e w' ⟨rfl, hd⟩; exact ⟨rfl, (Drawn.of wr _).trans hd⟩))
              go_wp2
              go_roundw
              case rel => exact ⟨j + 1, by omega, by go_num, by rw [HNEW.out, HJB.out], HD.out.trans (Drawn.of _ _)⟩
              case measure => simp [intOf]; omega
            · have f3 : decide ((y : Int) < (x : Int)) = false := decide_eq_false (by omega)
              have f3n : decide (y < x) = false := decide_eq_false hxy
              have hnew : bestU P now (j + 1) = some o := by rw [HST.out, hgood, HBE.out, HX.out, HY.out, f3n]; rfl
              have HNEW := Lib.hid hnew
              clear hnew hgood
              go_quiet ((go_at_call 35; refine (HEND.out _ (Drawn.of wr _)).mono ?_; rintro e w' ⟨rfl, hd⟩; exact ⟨rfl, (Drawn.of wr _).trans hd⟩))
              go_wp2
              go_roundw
              case rel => exact ⟨j + 1, by omega, by go_num, by rw [HNEW.out, HO2.out], HD.out.trans (Drawn.of _ _)⟩
              case measure => simp [intOf]; omega
        · have f2 : decide ((now : Int) < (en : Int)) = false := decide_eq_false (by omega)
          have f2n : decide (now < en) = false := decide_eq_false hg
          have hgood : good P now c = false := by unfold good; rw [← HEN.out, f2n, Bool.and_false]
          have hnew : bestU P now (j + 1) = o := by rw [HST.out, hgood]; rfl
          have HNEW := Lib.hid hnew
          rw [hs] at k1
          clear hnew hgood ho
          obtain ⟨u, hu⟩ : ∃ u, u = cptr X o := ⟨_, rfl⟩
          rw [← hu]
          have HU := Lib.hid hu
          clear hu
          go_quiet ((go_at_call 35; refine (HEND.out _ (Drawn.of wr _)).mono ?_; rintro e w' ⟨rfl, hd⟩; exact ⟨rfl, (Drawn.of wr _).trans hd⟩))
          go_wp2
          go_roundw
          case rel => exact ⟨j + 1, by omega, by go_num, by rw [HNEW.out, HU.out], HD.out.trans (Drawn.of _ _)⟩
          case measure => simp [intOf]; omega
      · have f1 : ((c.st : Int) == 2) = false := beq_eq_false_iff_ne.2 (by omega)
        have hgood : good P now c = false := by unfold good; rw [decide_eq_false hs, Bool.false_and]
        have hnew : bestU P now (j + 1) = o := by rw [HST.out, hgood]; rfl
        have HNEW := Lib.hid hnew
        obtain ⟨u, hu⟩ : ∃ u, u = cptr X o := ⟨_, rfl⟩
        rw [← hu]
        have HU := Lib.hid hu
        generalize c.st = s at k1 f1
        clear hnew hgood hs ho hu
        go_quiet ((go_at_call 35; refine (HEND.out _ (Drawn.of wr _)).mono ?_; rintro e w' ⟨rfl, hd⟩; exact ⟨rfl, (Drawn.of wr _).trans hd⟩))
        go_wp2
        go_roundw
        case rel => exact ⟨j + 1, by omega, by go_num, by rw [HNEW.out, HU.out], HD.out.trans (Drawn.of _ _)⟩
        case measure => simp [intOf]; omega
    · have hjn : j = n := by omega
      have hr : cptr X (bestU P now j) = res := by rw [HRES.out, hjn, HNL.out]
      rw [hr]
      have HDD := HD
      clear hr hR
      go_wp2
      go_ret
      exact ⟨rfl, HD.out⟩
end
end Go.Proofs.Ytmpcffkandmacaa
