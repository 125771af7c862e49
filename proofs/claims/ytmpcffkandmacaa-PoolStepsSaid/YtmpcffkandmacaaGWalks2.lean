/- The reference: rested, cut. -/
import Derived.Test.YtmpcffkandmacaaGWalks1
namespace Go.Proofs.Ytmpcffkandmacaa
open Go.RowKit
set_option linter.unusedVariables false
set_option linter.unusedSimpArgs false

/-- A number is out of the list. -/
def rmv (R : List Nat) (n : Int) : List Nat := match R.findIdx? (fun (x : Nat) => decide ((x : Int) = n)) with
  | none => R
  | some i => R.eraseIdx i
theorem nints_getD {R : List Nat} {i : Nat} (h : i < R.length) : (nints R).getD i 0 = ((R[i] : Nat) : Int) := by rw [nints_get h]; simp [List.getD_eq_getElem?_getD, h]
theorem nints_erase (R : List Nat) (i : Nat) : (nints R).eraseIdx i = nints (R.eraseIdx i) := by
  refine List.ext_getElem? fun k => ?_
  unfold nints
  rw [List.getElem?_eraseIdx, List.getElem?_map, List.getElem?_map, List.getElem?_map, List.getElem?_eraseIdx]
  split <;> rfl
section
variable {w : World} {lo p : Nat} {P : Pp} {R : List Nat} {vl vr vw : Value}
/-- The reference's pool stands, moved. -/
def GP (F : Nat → Prop) (w0 w : World) (lo p : Nat) (P : Pp) (R : List Nat) : Prop := ∃ vl vr vw, Gw w lo p P R vl vr vw ∧ Mv F (gfoot p vl vr vw) w0 w
theorem GP.then_ {F : Nat → Prop} {w0 w' : World} {P' : Pp} {R' : List Nat} (hm : Mv F (gfoot p vl vr vw) w0 w) (k : GP (gfoot p vl vr vw) w w' lo p P' R') : GP F w0 w' lo p P' R' := by
  obtain ⟨a, b, c, h, hm'⟩ := k
  exact ⟨a, b, c, h, hm.trans hm'⟩
theorem GP.only0 {F : Nat → Prop} {w0 w' : World} (h : GP F w0 w lo p P R) (ho : Only (fun _ => False) w w') : GP F w0 w' lo p P R := by
  obtain ⟨a, b, c, h, hm⟩ := h
  exact ⟨a, b, c, h.only0 ho, hm.trans (Mv.of_only ho)⟩
theorem GP.refl (h : Gw w lo p P R vl vr vw) : GP (gfoot p vl vr vw) w w lo p P R := ⟨vl, vr, vw, h, Mv.refl _ _⟩
theorem GP.size {F : Nat → Prop} {w0 : World} (h : GP F w0 w lo p P R) : w0.heap.size ≤ w.heap.size := by
  obtain ⟨_, _, _, _, hm⟩ := h
  exact hm.only.size
theorem GP.only {F S : Nat → Prop} {w0 w' : World} (h : GP F w0 w lo p P R) (ho : Only S w w') (hS : ∀ k, S k → w0.heap.size ≤ k) (hd : ∀ vl vr vw, Gw w lo p P R vl vr vw → ∀ k, gfoot p vl vr vw k → ¬ S k) : GP F w0 w' lo p P R := by
  obtain ⟨a, b, c, h, hm⟩ := h
  exact ⟨a, b, c, h.only ho (hd a b c h), hm.then_ ho hS⟩
theorem GP.row {w' : World} {P' : Pp} {R' : List Nat} (h : Gw w lo p P R vl vr vw) (k : GP (gfoot p vl vr vw) w w' lo p P' R') {b e size n : Nat} {v : Value} {xs : List Value} (hr : w.ownsRow b e size v n xs) (h1 : e ≠ 60) (h2 : e ≠ 97) (h3 : e ≠ 3) : w'.ownsRow b e size v n xs := by
  obtain ⟨_, _, _, _, hm⟩ := k
  exact owns_only hr hm.only (h.row_ne hr h1 h2 h3)

set_option maxRecDepth 100000 in
set_option maxHeartbeats 800000 in
theorem rested_any (h : Gw w lo p P R vl vr vw) (hR : R.length ≤ 64) (n : Int) :
    Calls Try.prog 63 #[ptr p, .int .i64 n] w fun e w' => e = .returned (.tuple #[]) ∧ GP (gfoot p vl vr vw) w w' lo p P (rmv R n) := by
  have hI := iRow_of (l := nints R) (by rw [nints_len]; exact h.rr)
  obtain ⟨ao, cap, hv, h1, h2, _⟩ := id hI
  rw [nints_len] at hv h1
  obtain ⟨k, hk⟩ : ∃ k, k = R.length := ⟨_, rfl⟩
  rw [← hk] at hv h1 hR
  subst hv
  have h4 : ∀ i, i < k → ∃ g, ao = some ⟨g, 0, none⟩ ∧ g < w.heap.size ∧ w.cell? ⟨g, i, none⟩ = some (.int .i64 ((R.getD i 0 : Nat) : Int)) := fun i hi => by
    obtain ⟨g, a1, a2, a3⟩ := hI.at_ rfl (i := i) (by rw [nints_len]; omega)
    exact ⟨g, a1, a2, by rw [a3, nints_get (by omega)]⟩
  obtain ⟨_, _, _, _, _, d6, _, hpl⟩ := h.cells
  have f6 := h.blk.free 6
  have HI := Lib.hid hI
  have H := Lib.hid h
  have H4 := Lib.hid h4
  have HK := Lib.hid hk
  clear h h4 hI hk
  go_enter Try.func63, Try.ntmps63
  go_upto_region 1 with fail
  go_loopw [4, 5, 11] (fun _ _ i wr => ∃ j : Nat, j ≤ k ∧ i = .int .i64 j ∧ wr = w ∧ ∀ i, i < j → ((R.getD i 0 : Nat) : Int) ≠ n) (fun _ _ i _ => k - (intOf i).toNat)
  case atStart => exact ⟨0, Nat.zero_le _, rfl, rfl, fun i hi => absurd hi (by omega)⟩
  case round =>
    obtain ⟨j, hj, rfl, rfl, hF⟩ := hrel
    have HF := Lib.hid hF
    clear hF
    by_cases hlt : j < k
    · obtain ⟨g, rfl, hgl, c0⟩ := H4.out j hlt
      obtain ⟨x, hx⟩ : ∃ x, x = R.getD j 0 := ⟨_, rfl⟩
      rw [← hx] at c0
      have HX := Lib.hid hx
      clear hx
      by_cases he : (x : Int) = n
      · have hfi : R.findIdx? (fun (y : Nat) => decide ((y : Int) = n)) = some j := by
          rw [List.findIdx?_eq_some_iff_getElem]
          have hjl : j < R.length := by rw [← HK.out]; exact hlt
          refine ⟨hjl, ?_, fun i hi => ?_⟩
          · have := HX.out
            rw [List.getD_eq_getElem?_getD, List.getElem?_eq_getElem hjl, Option.getD_some] at this
            rw [← this]
            exact decide_eq_true he
          · have := HF.out i hi
            rw [List.getD_eq_getElem?_getD, List.getElem?_eq_getElem (by omega), Option.getD_some] at this
            simpa using this
        have hrm : rmv R n = R.eraseIdx j := by unfold rmv; rw [hfi]
        have HRM := Lib.hid hrm
        have HW := Lib.hid (without_any HI.out (by rw [nints_len]; have := HK.out; omega) j)
        rw [nints_erase, nints_len] at HW
        subst he
        clear hfi hrm
        go_wp2_with (go_at_call 62; (refine HW.out.mono ?_); rintro e w2 ⟨v2, rfl, hrow, hO⟩; have hge : ∀ k, v2.ownBlock = some k → wr.heap.size ≤ k := (fun k hk => (ownsRow_lt hrow k hk).1); have hst := H.out.setR (hO.mono (fun _ _ h => h.elim)) (ownsRow_lower hrow (Nat.le_trans H.out.low (Nat.le_of_lt H.out.blk.lt))) (fun k hk => .inr (hge k hk)); have h2 := H.out.only0 hO; have d7 := h2.blk.cell 6 _ rfl; have f7 := h2.blk.free 6; have hpl2 := h2.blk.lt; have HST := Lib.hid hst; obtain ⟨a2, k2, rfl, _, _, _, _⟩ := ownsRow_slice hrow; clear hst hrow hO hge h2)
        refine bodyPost_ret (results_none rfl _ _ _) rfl ?_
        exact ⟨rfl, by rw [HRM.out]; exact ⟨_, _, _, HST.out.1, HST.out.2⟩⟩
      · have f1 : ((x : Int) == n) = false := beq_eq_false_iff_ne.2 he
        have HE := Lib.hid he
        clear he
        go_wp2
        go_roundw
        case rel =>
          refine ⟨j + 1, by omega, by go_num, by trivial, fun i hi => ?_⟩
          rcases (show i < j ∨ i = j by omega) with h | rfl
          · exact HF.out i h
          · rw [← HX.out]; exact HE.out
        case measure => simp [intOf]; omega
    · have hrm : rmv R n = R := by
        unfold rmv
        have : R.findIdx? (fun (y : Nat) => decide ((y : Int) = n)) = none := by
          rw [List.findIdx?_eq_none_iff]
          intro x hx
          obtain ⟨i, hi, rfl⟩ := List.getElem_of_mem hx
          have := HF.out i (by have := HK.out; omega)
          rw [List.getD_eq_getElem?_getD, List.getElem?_eq_getElem hi, Option.getD_some] at this
          exact decide_eq_false this
        rw [this]
      have HRM := Lib.hid hrm
      clear hrm
      go_wp2
      go_end0
      exact ⟨rfl, by rw [HRM.out]; exact GP.refl H.out⟩

/-- Those of another number. -/
def others (l : List Cn) (n : Int) : List Cn := l.filter fun c => decide ((c.num : Int) ≠ n)
theorem others_succ {l : List Cn} {n : Int} {j : Nat} (h : j < l.length) : others (l.take (j + 1)) n = others (l.take j) n ++ if ((cnAt l j).num : Int) = n then [] else [cnAt l j] := by
  unfold others
  rw [List.take_succ_eq_append_getElem h, List.filter_append, cnAt_eq h]
  congr 1
  by_cases hs : (l[j].num : Int) = n
  · simp [hs]
  · simp [hs]
theorem others_len (l : List Cn) (n : Int) : (others l n).length ≤ l.length := List.length_filter_le _ _
set_option maxRecDepth 100000 in
set_option maxHeartbeats 1600000 in
theorem gcut_any (h : Gw w lo p P R vl vr vw) (hR : R.length ≤ 64) (hl64 : P.l.length ≤ 64) (n : Int) :
    Calls Try.prog 59 #[ptr p, .int .i64 n] w fun e w' => e = .returned (.tuple #[]) ∧ GP (gfoot p vl vr vw) w w' lo p { P with l := others P.l n } (rmv R n) := by
  have z97 := zero97
  obtain ⟨i97, hi97, hz0, hz1, hz2⟩ := info_parts Try.info97
  obtain ⟨k, hk⟩ : ∃ k, k = P.l.length := ⟨_, rfl⟩
  obtain ⟨ao, cap, rfl, h1, h2, _, _⟩ := ownsRow_slice h.row
  have hcm : cap ≤ 9223372036854775807 := by unfold maxLen at h2; omega
  rw [← hk] at h1 h hl64
  obtain ⟨_, _, _, _, d5, _, _, hpl⟩ := h.cells
  have H := Lib.hid h
  have HK := Lib.hid hk
  clear h hk h2
  go_enter Try.func59, Try.ntmps59
  go_upto_region 2 with fail
  clear d5 hpl
  go_loopw [4, 6, 12] (fun o _ i wr => ∃ j : Nat, j ≤ k ∧ i = .int .i64 j ∧ wr.ownsRow w.heap.size 97 5 o (others (P.l.take j) n).length (gCells (others (P.l.take j) n)) ∧ Only (fun _ => False) w wr) (fun _ _ i _ => k - (intOf i).toNat)
  case atStart => exact ⟨0, Nat.zero_le _, rfl, World.ownsRow_nil _ _ _ _, Only.refl _ _⟩
  case round =>
    obtain ⟨j, hj, rfl, hrow, hO⟩ := hrel
    obtain ⟨L, hL⟩ : ∃ L, L = others (P.l.take j) n := ⟨_, rfl⟩
    rw [← hL] at hrow
    have hll : L.length ≤ 64 := by rw [hL]; exact Nat.le_trans (others_len _ _) (by rw [List.length_take]; omega)
    obtain ⟨ax, cx, rfl, hx1, hx2, _, _⟩ := ownsRow_slice hrow
    have HROW := Lib.hid hrow
    have HL := Lib.hid hL
    have HO := Lib.hid hO
    clear hrow hL
    by_cases hlt : j < k
    · have hjl : j < P.l.length := by rw [← HK.out]; exact hlt
      obtain ⟨g, cap', e, _, _, hgl, c0, c1, c2, c3, c4, _⟩ := (H.out.only0 hO).at_ hjl
      injection e with e1 _ e3
      subst e1 e3
      have hsu := others_succ (n := n) hjl
      obtain ⟨c, hc⟩ : ∃ c, c = cnAt P.l j := ⟨_, rfl⟩
      rw [← hc] at c0 c1 c2 c3 c4 hsu
      rw [← HL.out] at hsu
      have HSU := Lib.hid hsu
      obtain ⟨num, st, who, sn, bo, nth⟩ := c
      simp only at c0 c1 c2 c3 c4
      clear hc hO hsu
      go_upto_region 4 with fail
      have ho4 : Only (fun _ => False) wr (wr.alloc (Obj.cells #[.int .i64 num, .int .i64 ((st : Int) + 1), .int .i64 who, .int .i64 sn, .int .i64 bo] 97)) := (Only.refl (fun _ => False) wr).alloc _
      have HO4 := Lib.hid (HO.out.trans ho4 (fun _ _ h => h))
      have HROW4 := Lib.hid (owns_only HROW.out ho4 (fun _ _ h => h))
      have hb4 : Blk (wr.alloc (Obj.cells #[.int .i64 num, .int .i64 ((st : Int) + 1), .int .i64 who, .int .i64 sn, .int .i64 bo] 97)) wr.heap.size [.int .i64 num, .int .i64 ((st : Int) + 1), .int .i64 who, .int .i64 sn, .int .i64 bo] 97 := Blk.new wr [.int .i64 num, .int .i64 ((st : Int) + 1), .int .i64 who, .int .i64 sn, .int .i64 bo] 97
      obtain ⟨q, hq⟩ : ∃ q, q = wr.heap.size := ⟨_, rfl⟩
      rw [← hq] at hb4 ⊢
      clear hq c0 c1 c2 c3 c4 ho4
      generalize wr.alloc (Obj.cells #[.int .i64 num, .int .i64 ((st : Int) + 1), .int .i64 who, .int .i64 sn, .int .i64 bo] 97) = w4 at hb4 HO4 HROW4 ⊢
      have k0 := hb4.cell 0 _ rfl
      have k1 := hb4.cell 1 _ rfl
      have k2 := hb4.cell 2 _ rfl
      have k3 := hb4.cell 3 _ rfl
      have k4 := hb4.cell 4 _ rfl
      have hql := hb4.lt
      clear hb4
      by_cases he : (num : Int) = n
      · have HS := Lib.hid (show others (P.l.take (j + 1)) n = L by rw [HSU.out, if_pos he, List.append_nil])
        have f1 : ((num : Int) == n) = true := beq_iff_eq.2 he
        have f1n : ((num : Int) != n) = false := by rw [bne, f1]; rfl
        clear he
        go_wp2
        go_roundw
        case rel => exact ⟨j + 1, by omega, by go_num, by rw [HS.out]; exact HROW4.out, HO4.out⟩
        case measure => simp [intOf]; omega
      · have HS := Lib.hid (show others (P.l.take (j + 1)) n = L ++ [⟨num, st, who, sn, bo, nth⟩] by rw [HSU.out, if_neg he])
        have f1 : ((num : Int) == n) = false := beq_eq_false_iff_ne.2 he
        have f1n : ((num : Int) != n) = true := by rw [bne, f1]; rfl
        have hsz := HO4.out.size
        clear he
        go_upto_region 6 with (at_builtin; refine wpList_append_row rfl (.tmp 20) (.tmp 22) 58 rfl w.heap.size 97 i97 _ 5 40 Try.underlying58 hi97 hz0 hz1 hz2 rfl (by decide) (.slice ax L.length cx) L.length (gCells L) rfl (HROW4.out.alloc _) (some ⟨w4.heap.size, 0, none⟩) 1 1 (gcC ⟨num, st, who, sn, bo, nth⟩) rfl rfl (fun _ => ⟨_, rfl, cells_new _ _ _⟩) (fun e => by cases e) (fun u hu => gc_one [⟨num, st, who, sn, bo, nth⟩] u (by simpa [gCells] using hu)) (by unfold maxLen; omega) (by omega) (by simp only [World.size_alloc]; omega) ?_; intro v9 w9 hown9 hon9 hat9 _; obtain ⟨a9, k9, rfl, _, _, _, _⟩ := ownsRow_slice hown9; have HO9 := Lib.hid hown9; have HN9 := Lib.hid (show Only (fun _ => False) w w9 from (HO4.out.trans ((Only.refl (fun _ => False) w4).alloc (Obj.cells #[.int .i64 num, .int .i64 ((st : Int) + 1), .int .i64 who, .int .i64 sn, .int .i64 bo] 97)) (fun _ _ h => h)).trans hon9 (fun k hk e => by have := (ownsRow_lt HROW4.out k e).1; omega)); clear hown9 hon9 hat9)
        go_wp2_with fail
        refine ⟨⟨_, _, _, ⟨j + 1, by omega, by go_num, by rw [HS.out, List.length_append, List.length_singleton, gCells_append]; simpa [gCells] using HO9.out, HN9.out⟩, rfl, rfl, rfl⟩, ?_⟩
        simp [intOf]; omega
    · have hjn : j = k := by omega
      have hLf : L = others P.l n := by rw [HL.out, hjn, HK.out, List.take_length]
      have h3 := H.out.only0 hO
      have d5 := h3.blk.cell 5 _ rfl
      have f5 := h3.blk.free 5
      have hpl := h3.blk.lt
      have hge : ∀ k, (Value.slice ax L.length cx).ownBlock = some k → w.heap.size ≤ k := fun k hk => (ownsRow_lt HROW.out k hk).1
      have hst := H.out.setL (l := others P.l n) (hO.mono (fun _ _ h => h.elim)) (ownsRow_lower (by rw [← hLf]; exact HROW.out) (Nat.le_trans H.out.low (Nat.le_of_lt H.out.blk.lt))) (fun k hk => .inr (hge k hk))
      have HST := Lib.hid hst
      clear h3 hst hLf hge hO
      go_upto_region 8 with fail
      have HRS := Lib.hid (rested_any HST.out.1 hR n)
      have HM := Lib.hid HST.out.2
      clear d5 f5 hpl
      generalize wr.setCell ⟨p, 5, none⟩ (.slice ax L.length cx) = w5 at HRS HM ⊢
      go_wp2_with (go_at_call 63; (refine HRS.out.mono ?_); rintro e w6 ⟨rfl, hG⟩; have HG := Lib.hid hG; clear hG)
      go_end0
      have hG := GP.then_ HM.out HG.out
      rw [HK.out] at hG
      exact ⟨rfl, hG⟩
end
end Go.Proofs.Ytmpcffkandmacaa
