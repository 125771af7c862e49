/- fails. -/
import Derived.Test.YtlcblfkmadjppaaWalks6
namespace Go.Proofs.Ytlcblfkmadjppaa
open Go.RowKit
set_option linter.unusedVariables false
set_option linter.unusedSimpArgs false

section
variable {F : Nat → Prop} {w : World} {lo p : Nat} {r : Rq} {o : List Ac}

theorem RP.say1 {F : Nat → Prop} {w w' : World} (x : Obj) {r' : Rq} {o' : List Ac} (h : RP F (w.alloc x) w' lo p r' o') : RP F w w' lo p r' o' := h.trans (Mv.of_only ((Only.refl _ w).alloc x))
/-- say(one act), another row laid ahead of it. -/
theorem say_one1 (h : RQ F w lo p r o) (x : Obj) (a b c : Int) (hb : o.length ≤ 60) :
    Calls Try.prog 44 #[.pointer (some ⟨p, 0, none⟩), .slice (some ⟨w.heap.size + 1, 0, none⟩) 1 1] ((w.alloc x).alloc (.cells #[.int .i64 a, .int .i64 b, .int .i64 c] 37)) fun e w' => e = .returned (.tuple #[]) ∧ RP F w w' lo p r (o ++ [⟨a, b, c⟩]) := by
  have := say_one (h.only ((Only.refl (fun _ => False) w).alloc x) (fun _ _ h => h)) a b c hb
  rw [World.size_alloc] at this
  refine this.mono ?_
  rintro e w' ⟨rfl, hP⟩
  exact ⟨rfl, hP.say1 x⟩

theorem rq_runs (h : RQ F w lo p r o) {n : Nat} (hn : r.runs.length = n) : p < w.heap.size ∧ ∃ ao cap, w.cell? ⟨p, 11, none⟩ = some (.slice ao n cap) ∧ n ≤ cap ∧ cap ≤ 9223372036854775807 := by
  obtain ⟨vr, vo, h, -⟩ := h
  obtain ⟨ao, cap, rfl, h1, h2, _⟩ := ownsRow_slice h.runs
  rw [hn] at h1
  exact ⟨h.blk.lt, ao, cap, by rw [← hn]; exact h.blk.cell 11 _ rfl, h1, by unfold maxLen at h2; omega⟩
theorem rq_cell (h : RQ F w lo p r o) (i : Nat) (u : Value) (hi : ∀ vr vo, (rqCells r vr vo)[i]? = some u) : w.cell? ⟨p, i, none⟩ = some u ∧ w.frozen? ⟨p, i, none⟩ = false := by
  obtain ⟨vr, vo, h, -⟩ := h
  exact ⟨h.blk.cell i u (hi _ _), h.blk.free i⟩
theorem rq_set (h : RQ F w lo p r o) {r' : Rq} (i : Nat) (u : Value) (e : ∀ vr vo, rqCells r' vr vo = (rqCells r vr vo).set i u) (er : r'.runs = r.runs) : RP F w (w.setCell ⟨p, i, none⟩ u) lo p r' o := by
  obtain ⟨vr, vo, h, rfl⟩ := h
  have := h.setF (e vr vo) er
  exact ⟨_, rq_of this.1, this.2⟩

set_option maxRecDepth 100000 in
set_option maxHeartbeats 1600000 in
theorem fails_any (h : RQ F w lo p r o) (hok : Okq r) (ho : o.length ≤ 40) (now : Nat) (hn : now ≤ 4611686018427387904) (id why : Int) (hw : 1 ≤ why ∧ why ≤ 4) (allow : Bool) :
    Calls Try.prog 46 #[.pointer (some ⟨p, 0, none⟩), .int .i64 now, .int .i64 id, .int .i64 why, .bool allow] w fun e w' => e = .returned (.tuple #[]) ∧ RP F w w' lo p (failsR r now id why allow).1 (o ++ (failsR r now id why allow).2) := by
  have hl9 : r.runs.length ≤ 64 := by have := hok.len9; omega
  have H := Lib.hid h
  have HL := Lib.hid hl9
  have HOK := Lib.hid (hok.of_end id)
  have hm9 := hok.made9
  have ha9 : r.again ≤ 5 := by have := hok.a1; have := hok.p1; omega
  have HM := Lib.hid hm9
  clear h hok hl9 hm9
  unfold failsR
  by_cases hk : keep r.runs id ≠ []
  · rw [if_pos hk]
    have hn0 : 0 < (endR r id).runs.length := List.length_pos_iff.2 hk
    obtain ⟨n, hnn⟩ : ∃ n, n = (endR r id).runs.length := ⟨_, rfl⟩
    rw [← hnn] at hn0
    have hn9 : n ≤ 9 := by rw [hnn]; exact HOK.out.len9
    have HN := Lib.hid hnn
    clear hk hnn
    go_enter Try.func46, Try.ntmps46
    go_upto_region 3 with (go_at_call 49; (with_reducible refine (end_any H.out HL.out id).mono ?_); rintro e w1 ⟨rfl, hP⟩; have HP := Lib.hid hP; clear hP)
    obtain ⟨F1, h1, m1⟩ := HP.out
    obtain ⟨hpl, ao, cap, c11, hc1, hc2⟩ := rq_runs h1 HN.out.symm
    have H1 := Lib.hid h1
    have M1 := Lib.hid m1
    clear h1 m1
    have f1 : decide (0 < (n : Int)) = true := decide_eq_true (by omega)
    have f1n : decide (0 < n) = true := decide_eq_true hn0
    go_wp2_with fail
    go_end0
    exact ⟨rfl, _, by rw [List.append_nil]; exact H1.out, M1.out⟩
  · have hke : keep r.runs id = [] := Classical.not_not.1 hk
    rw [if_neg hk]
    have hz : (endR r id).runs.length = 0 := by show (keep r.runs id).length = 0; rw [hke]; rfl
    have HZ := Lib.hid hz
    clear hk hke hz
    cases hmay : mayR r why allow with
    | true =>
      rw [if_pos rfl]
      have HMY := Lib.hid hmay
      clear hmay
      go_enter Try.func46, Try.ntmps46
      go_upto_region 3 with (go_at_call 49; (with_reducible refine (end_any H.out HL.out id).mono ?_); rintro e w1 ⟨rfl, hP⟩; have HP := Lib.hid hP; clear hP)
      obtain ⟨F1, h1, m1⟩ := HP.out
      obtain ⟨hpl, ao, cap, c11, hc1, hc2⟩ := rq_runs h1 HZ.out
      have H1 := Lib.hid h1
      have M1 := Lib.hid m1
      have hag := again_any h1 HOK.out why allow
      rw [show mayR (endR r id) why allow = true from HMY.out] at hag
      have HAG := Lib.hid hag
      clear h1 m1 hag
      go_upto_region 5 with (go_at_call 48; (refine HAG.out.mono ?_); rintro e w2 ⟨rfl, hD⟩; have HD := Lib.hid (hD.only (fun _ => False)); clear hD)
      have h2 := H1.out.only HD.out (fun _ _ h => h)
      obtain ⟨c9, e9⟩ := rq_cell h2 9 (.int .i64 r.again) (fun _ _ => rfl)
      have h3 := rq_set h2 (r' := { endR r id with again := r.again + 1 }) 9 (.int .i64 ((r.again : Int) + 1)) (fun _ _ => rfl) rfl
      have hp2 := (h2.lt p h2.at_p).2
      have H3 := Lib.hid h3
      have M2 := Lib.hid (Mv.of_only (F := F1) HD.out)
      clear h2 h3 c11
      obtain ⟨ag, hag⟩ : ∃ ag, ag = r.again := ⟨_, rfl⟩
      rw [← hag] at c9 ha9 H3
      have HAGG := Lib.hid hag
      clear hag
      go_upto_region 6 with fail
      generalize w2.setCell ⟨p, 9, none⟩ (.int .i64 ((ag : Int) + 1)) = w3 at H3 ⊢
      obtain ⟨F3, h3, m3⟩ := H3.out
      have htr := try_any h3 (by show r.made ≤ 20; have := HM.out; omega) (by show (endR r id).runs.length ≤ 20; rw [HZ.out]; omega) (by omega) now hn 1
      have HT := Lib.hid htr
      have M3 := Lib.hid m3
      clear h3 m3 htr c9 e9
      go_wp2_with (go_at_call 28; (refine HT.out.mono ?_); rintro e w4 ⟨rfl, hP4⟩; have HP4 := Lib.hid hP4; clear hP4)
      go_end0
      have hfin := HP4.out.trans ((M1.out.trans M2.out).trans M3.out)
      rw [HAGG.out] at hfin
      exact ⟨rfl, hfin⟩
    | false =>
      rw [if_neg (by decide)]
      have HMY := Lib.hid hmay
      clear hmay
      go_enter Try.func46, Try.ntmps46
      go_upto_region 3 with (go_at_call 49; (with_reducible refine (end_any H.out HL.out id).mono ?_); rintro e w1 ⟨rfl, hP⟩; have HP := Lib.hid hP; clear hP)
      obtain ⟨F1, h1, m1⟩ := HP.out
      obtain ⟨hpl, ao, cap, c11, hc1, hc2⟩ := rq_runs h1 HZ.out
      have H1 := Lib.hid h1
      have M1 := Lib.hid m1
      have hag := again_any h1 HOK.out why allow
      rw [show mayR (endR r id) why allow = false from HMY.out] at hag
      have HAG := Lib.hid hag
      clear h1 m1 hag
      go_upto_region 1 with (go_at_call 48; (refine HAG.out.mono ?_); rintro e w2 ⟨rfl, hD⟩; have HD := Lib.hid (hD.only (fun _ => False)); clear hD)
      have h2 := H1.out.only HD.out (fun _ _ h => h)
      obtain ⟨c12, e12⟩ := rq_cell h2 12 (.bool r.over) (fun _ _ => rfl)
      have h3 := rq_set h2 (r' := { endR r id with over := true }) 12 (.bool true) (fun _ _ => rfl) rfl
      have hp2 := (h2.lt p h2.at_p).2
      have H3 := Lib.hid h3
      have M2 := Lib.hid (Mv.of_only (F := F1) HD.out)
      clear h2 h3 c11
      go_upto_region 2 with fail
      generalize w2.setCell ⟨p, 12, none⟩ (.bool true) = w3 at H3 ⊢
      obtain ⟨F3, h3, m3⟩ := H3.out
      have H4 := Lib.hid h3
      have M3 := Lib.hid m3
      clear h3 m3 c12 e12
      obtain ⟨hw1, hw4⟩ := hw
      rcases (show why = 1 ∨ why = 2 ∨ why = 3 ∨ why = 4 by omega) with rfl | rfl | rfl | rfl
      all_goals
        go_wp2_with (go_at_call 44; (with_reducible refine (say_one1 H4.out _ 4 id _ (by omega)).mono ?_); rintro e w4 ⟨rfl, hP4⟩; have HP4 := Lib.hid hP4; clear hP4)
        go_end0
        exact ⟨rfl, HP4.out.trans ((M1.out.trans M2.out).trans M3.out)⟩
end
end Go.Proofs.Ytlcblfkmadjppaa
