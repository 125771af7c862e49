/- The reference: fails, Fail. -/
import Derived.Test.YtlcblfkmadjppaaGWalks3
namespace Go.Proofs.Ytlcblfkmadjppaa
open Go.RowKit
set_option linter.unusedVariables false
set_option linter.unusedSimpArgs false

section
variable {w : World} {lo p : Nat} {r : Rq} {vi vb vo : Value} {o : List Ac}
/-- Only the request's own block, its acts and new blocks turn. -/
def GP (w w' : World) (lo p : Nat) (r : Rq) (o : List Ac) (vo : Value) : Prop := ∃ vi vb vo', GQ w' lo p r vi vb o vo' ∧ Mv (pfoot p vo) (gfoot p vi vb vo') w w'
theorem gq_ids (h : GQ w lo p r vi vb o vo) {n : Nat} (hn : r.runs.length = n) : p < w.heap.size ∧ ∃ ao cap, w.cell? ⟨p, 11, none⟩ = some (.slice ao n cap) ∧ n ≤ cap ∧ cap ≤ 9223372036854775807 := by
  unfold GQ at h
  obtain ⟨ao, cap, rfl, h1, h2, _⟩ := ownsRow_slice h.ids
  have c := h.blk.cell 11 _ rfl
  rw [idsOf_len, hn] at c h1
  exact ⟨h.blk.lt, ao, cap, c, h1, by unfold maxLen at h2; omega⟩
theorem Mv.ofp {F : Nat → Prop} {a b : World} (h : Mv (fun k => k = p) (fun k => k = p) a b) (hp : F p) : Mv F F a b := ⟨h.only.mono (fun k _ e => by rw [e]; exact hp), fun k hk => .inl hk⟩
theorem small_ids {r : Rq} (h : Okw r) : ∀ x ∈ r.runs, x.id < 1000000 ∧ x.since ≤ 4611686018427387904 := fun x hx => ⟨by have := h.lt x hx; have := h.made9; omega, h.t3 x hx⟩
theorem idsOf_snoc (l : List Run) (a b : Nat) : idsOf (l ++ [⟨a, b⟩]) = idsOf l ++ [(a : Int)] ∧ sincesOf (l ++ [⟨a, b⟩]) = sincesOf l ++ [(b : Int)] := by simp [idsOf, sincesOf]

set_option maxRecDepth 100000 in
set_option maxHeartbeats 1600000 in
theorem gfails_any (h : GQ w lo p r vi vb o vo) (hok : Okq r) (ho : o.length ≤ 40) (now : Nat) (hn : now ≤ 4611686018427387904) (id why : Int) (hw : 1 ≤ why ∧ why ≤ 4) (allow : Bool) :
    Calls Try.prog 34 #[.pointer (some ⟨p, 0, none⟩), .int .i64 now, .int .i64 id, .int .i64 why, .bool allow] w fun e w' => e = .returned (.tuple #[]) ∧ GP w w' lo p (failsR r now id why allow).1 (o ++ (failsR r now id why allow).2) vo := by
  have H := Lib.hid h
  have hend := gend_any h (by have := hok.len9; omega) (small_ids hok.w) id
  have HEND := Lib.hid hend
  have HOK := Lib.hid (hok.of_end id)
  have ha9 : r.again ≤ 5 := by have := hok.a1; have := hok.p1; omega
  have HM := Lib.hid hok.made9
  clear h hok hend
  unfold failsR
  by_cases hk : keep r.runs id ≠ []
  · rw [if_pos hk]
    have hn0 : 0 < (endR r id).runs.length := List.length_pos_iff.2 hk
    obtain ⟨n, hnn⟩ : ∃ n, n = (endR r id).runs.length := ⟨_, rfl⟩
    rw [← hnn] at hn0
    have hn9 : n ≤ 9 := by rw [hnn]; exact HOK.out.len9
    have HN := Lib.hid hnn
    clear hk hnn
    have f1 : decide (0 < (n : Int)) = true := decide_eq_true (by omega)
    have f1n : decide (0 < n) = true := decide_eq_true hn0
    go_enter Try.func34, Try.ntmps34
    go_upto_region 1 with (go_at_call 35; (refine HEND.out.mono ?_); rintro e w1 ⟨rfl, vi1, vb1, h1, m1⟩; have H1 := Lib.hid h1; have M1 := Lib.hid m1; clear h1 m1)
    obtain ⟨hpl, ao, cap, c11, hc1, hc2⟩ := gq_ids H1.out HN.out.symm
    go_wp2_with fail
    refine bodyPost_ret (results_none rfl _ _ _) rfl ?_
    exact ⟨rfl, _, _, _, by rw [List.append_nil]; exact H1.out, M1.out⟩
  · have hke : keep r.runs id = [] := Classical.not_not.1 hk
    rw [if_neg hk]
    have hz : (endR r id).runs.length = 0 := by show (keep r.runs id).length = 0; rw [hke]; rfl
    have HZ := Lib.hid hz
    have HKE := Lib.hid hke
    clear hk hke hz
    cases hmay : mayR r why allow with
    | true =>
      rw [if_pos rfl]
      have HMY := Lib.hid hmay
      clear hmay
      go_enter Try.func34, Try.ntmps34
      go_upto_region 1 with (go_at_call 35; (refine HEND.out.mono ?_); rintro e w1 ⟨rfl, vi1, vb1, h1, m1⟩; have H1 := Lib.hid h1; have M1 := Lib.hid m1; clear h1 m1)
      obtain ⟨hpl, ao, cap, c11, hc1, hc2⟩ := gq_ids H1.out HZ.out
      have hag := gmay_any (H1.out : Gw _ _ _ _ _ _ _ _ _ _) HOK.out why allow
      rw [show mayR (endR r id) why allow = true from HMY.out] at hag
      have HAG := Lib.hid hag
      clear hag
      go_upto_region 3 with (go_at_call 36; (refine HAG.out.mono ?_); rintro e w2 ⟨rfl, hD⟩; have HD := Lib.hid (hD.only (fun _ => False)); clear hD)
      have h2 : Gw w2 lo p (endR r id) (idsOf (endR r id).runs) vi1 (sincesOf (endR r id).runs) vb1 o vo := (H1.out : Gw _ _ _ _ _ _ _ _ _ _).only HD.out (fun _ _ h => h)
      have c9 : w2.cell? ⟨p, 9, none⟩ = some (.int .i64 r.again) := h2.blk.cell 9 _ rfl
      have e9 := h2.blk.free 9
      have hp2 := h2.blk.lt
      have h3 := h2.setF (i := 9) (u := .int .i64 ((r.again : Int) + 1)) (r' := { endR r id with again := r.again + 1 }) (by rfl)
      have H3 := Lib.hid h3
      clear h2 h3 c11
      obtain ⟨ag, hag⟩ : ∃ ag, ag = r.again := ⟨_, rfl⟩
      rw [← hag] at c9 ha9 H3
      have HAGG := Lib.hid hag
      clear hag
      go_upto_region 4 with fail
      generalize w2.setCell ⟨p, 9, none⟩ (.int .i64 ((ag : Int) + 1)) = w3 at H3 ⊢
      have htr := gmake_any H3.out.1 (by show r.made ≤ 20; have := HM.out; omega) (by rw [idsOf_len, HZ.out]; omega) (by rw [sincesOf_len, HZ.out]; omega) (by omega) now hn 1
      have HT := Lib.hid htr
      clear htr c9 e9
      go_wp2_with (go_at_call 31; (refine HT.out.mono ?_); rintro e w4 ⟨rfl, hP4⟩; have HP4 := Lib.hid hP4; clear hP4)
      refine bodyPost_ret (results_none rfl _ _ _) rfl ?_
      obtain ⟨vi4, vb4, vo4, h4, m4⟩ := HP4.out
      have hg : GQ w4 lo p (againR (endR r id) now) vi4 vb4 (o ++ [⟨1, r.made, 1⟩]) vo4 := by
        unfold GQ
        have hr : (againR (endR r id) now).runs = (endR r id).runs ++ [⟨r.made, now⟩] := rfl
        rw [hr, (idsOf_snoc _ _ _).1, (idsOf_snoc _ _ _).2]
        have h5 := h4.re (r' := againR (endR r id) now) (by rw [HAGG.out]; rfl)
        exact h5
      refine ⟨rfl, vi4, vb4, vo4, hg, ?_⟩
      exact ((M1.out.trans (Mv.of_only HD.out)).trans (H3.out.2.ofp (.inl rfl))).trans m4
    | false =>
      rw [if_neg (by decide)]
      have HMY := Lib.hid hmay
      clear hmay
      obtain ⟨hw1, hw4⟩ := hw
      obtain ⟨st, hst⟩ : ∃ st, st = statusOf why := ⟨_, rfl⟩
      rw [← hst]
      have hcase : (why = 2 ∧ st = 502) ∨ (why = 3 ∧ st = 504) ∨ (why ≠ 2 ∧ why ≠ 3 ∧ st = 503) := by
        rw [hst]
        unfold statusOf
        by_cases h2 : why = 2
        · left; exact ⟨h2, if_pos h2⟩
        · by_cases h3 : why = 3
          · right; left; exact ⟨h3, by rw [if_neg h2, if_pos h3]⟩
          · right; right; exact ⟨h2, h3, by rw [if_neg h2, if_neg h3]⟩
      have hagf : ∀ (w1 : World) (vi1 vb1 : Value), GQ w1 lo p (endR r id) vi1 vb1 o vo → Calls Try.prog 36 #[.pointer (some ⟨p, 0, none⟩), .int .i64 why, .bool allow] w1 fun e w' => e = .returned (.bool false) ∧ Drawn w1 w' := fun w1 vi1 vb1 h => by
        have := gmay_any (h : Gw _ _ _ _ _ _ _ _ _ _) HOK.out why allow
        rw [show mayR (endR r id) why allow = false from HMY.out] at this
        exact this
      have HAGF := Lib.hid hagf
      clear hst hagf HMY
      rcases hcase with ⟨rfl, rfl⟩ | ⟨rfl, rfl⟩ | ⟨hc2, hc3, rfl⟩
      all_goals
        try have fw2 : (why == 2) = false := beq_eq_false_iff_ne.2 hc2
        try have fw3 : (why == 3) = false := beq_eq_false_iff_ne.2 hc3
        try clear hc2 hc3
        go_enter Try.func34, Try.ntmps34
        go_upto_region 1 with (go_at_call 35; (refine HEND.out.mono ?_); rintro e w1 ⟨rfl, vi1, vb1, h1, m1⟩; have H1 := Lib.hid h1; have M1 := Lib.hid m1; clear h1 m1)
        obtain ⟨hpl, ao, cap, c11, hc1, hc2⟩ := gq_ids H1.out HZ.out
        have HAG := Lib.hid (HAGF.out _ _ _ H1.out)
        go_upto_region 5 with (go_at_call 36; (refine HAG.out.mono ?_); rintro e w2 ⟨rfl, hD⟩; have HD := Lib.hid (hD.only (fun _ => False)); clear hD)
        have h2 : Gw w2 lo p (endR r id) (idsOf (endR r id).runs) vi1 (sincesOf (endR r id).runs) vb1 o vo := (H1.out : Gw _ _ _ _ _ _ _ _ _ _).only HD.out (fun _ _ h => h)
        have H2 := Lib.hid h2
        clear h2 c11
        go_wp2_with (go_at_call 37; (with_reducible refine (gdone_any H2.out (by omega) 4 id _).mono ?_); rintro e w3 ⟨rfl, hP⟩; have HP := Lib.hid hP; clear hP)
        go_end0
        obtain ⟨vo3, h3, m3⟩ := HP.out
        refine ⟨rfl, .slice none 0 0, .slice none 0 0, vo3, ?_, ?_⟩
        · show Gw _ _ _ _ (idsOf (endR r id).runs) _ (sincesOf (endR r id).runs) _ _ _
          rw [show (endR r id).runs = [] from HKE.out]
          exact h3.re rfl
        have m := (M1.out.trans (Mv.of_only HD.out)).trans (m3.widen (G := gfoot p vi1 vb1 vo) (fun k hk => hk.imp (fun h => h) (fun h => .inr (.inr h))))
        exact ⟨m.only.mono (fun k _ hk => hk), fun k hk => m.new_ k (by
          rcases hk with hk | hk | hk | hk
          · exact .inl (.inl hk)
          · cases hk
          · cases hk
          · exact .inl (.inr hk))⟩
end
end Go.Proofs.Ytlcblfkmadjppaa
