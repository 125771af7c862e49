/- chain.Peek, Drop, Take. -/
import Derived.Test.YtpkaaadnolmidaaWalks1
namespace Go.Proofs.Ytpkaaadnolmidaa
open Go.RowKit
set_option linter.unusedVariables false

theorem Try.info5 : (Try.prog.info? 5).map (fun i => (i.zero, i.size, i.bytes)) = some (some (.int .u8 0), 1, 1) := by kernel_rfl

structure PeekPost (w w' : World) (v : Value) (L : List Int) : Prop where
  own : OwnBytes w' w.heap.size v L
  only : Only (fun _ => False) w w'

theorem peek_only {w w1 w2 w3 : World} (h1 : Only (fun _ => False) w w1) (h2 : Only (fun k => k = w.heap.size) w1 w2) (h3 : Only (fun k => k = w.heap.size) w2 w3) : Only (fun _ => False) w w3 :=
  (h1.trans h2 (fun i hi h => by omega)).trans h3 (fun i hi h => by omega)

section
variable {w : World} {p : Nat} {g : Option Nat} {r : List Int} {fr bound high low : Nat} {L : List Int} {stop : Bool}

theorem peek_none (h : Ch w p g r fr bound high low L stop) (n : Int) (hn : n < 1 ∨ L.length = 0) :
    Calls Try.prog 16 #[.pointer (some ⟨p, 0, none⟩), .int .i64 n] w fun e w' => e = .returned (.slice none 0 0) ∧ w = w' := by
  have H := Lib.hid h
  have h1 := h.fit
  have h2 := h.max
  have h3 := h.most
  clear h
  rcases hn with hn | hn
  · by_cases hl : n ≤ L.length
    · go_enter Try.func16, Try.ntmps16
      go_wp2_with (first
        | (go_at_call 20; (with_reducible refine (len_any H.out).mono ?_); rintro e w' ⟨rfl, rfl⟩))
      all_goals
        go_ret
        exact ⟨rfl, rfl⟩
    · omega
  · by_cases hl : n ≤ 0
    · go_enter Try.func16, Try.ntmps16
      go_wp2_with (first
        | (go_at_call 20; (with_reducible refine (len_any H.out).mono ?_); rintro e w' ⟨rfl, rfl⟩; rw [hn]))
      all_goals
        go_ret
        exact ⟨rfl, rfl⟩
    · go_enter Try.func16, Try.ntmps16
      go_wp2_with (first
        | (go_at_call 20; (with_reducible refine (len_any H.out).mono ?_); rintro e w' ⟨rfl, rfl⟩; rw [hn]))
      all_goals
        go_ret
        exact ⟨rfl, rfl⟩
theorem peek_nil (n : Int) : Calls Try.prog 16 #[.pointer none, .int .i64 n] w fun e w' => e = .returned (.slice none 0 0) ∧ w = w' := by
  by_cases hl : n ≤ 0
  all_goals
    go_enter Try.func16, Try.ntmps16
    go_wp2_with (first
      | (go_at_call 20; (with_reducible refine (len_nil w).mono ?_); rintro e w' ⟨rfl, rfl⟩))
    all_goals
      go_ret
      exact ⟨rfl, rfl⟩

set_option maxRecDepth 100000 in
set_option maxHeartbeats 1600000 in
theorem peek_some (h : Ch w p g r fr bound high low L stop) (n : Int) (k : Nat) (hk : (k : Int) = min n L.length) (hk1 : 1 ≤ k) :
    Calls Try.prog 16 #[.pointer (some ⟨p, 0, none⟩), .int .i64 n] w fun e w' => ∃ v, e = .returned v ∧ PeekPost w w' v (L.take k) := by
  obtain ⟨i5, hi, hz0, hz1, hz2⟩ := info_parts Try.info5
  have h1 := h.fit
  have h2 := h.max
  have h3 := h.most
  have hkL : k ≤ L.length := by omega
  obtain ⟨gk, rfl⟩ : ∃ gk, g = some gk := by
    cases g with
    | none => have := (h.nil rfl).2; subst this; simp at hkL; omega
    | some gk => exact ⟨gk, rfl⟩
  obtain ⟨hring, hgp, hfr⟩ := h.ring gk rfl
  have H := Lib.hid h
  have HR := Lib.hid hring
  clear h hring
  obtain ⟨m, hm⟩ : ∃ m, m = min (r.length - fr) k := ⟨_, rfl⟩
  have hm1 : m ≤ k := by omega
  have hm2 : m ≤ r.length - fr := by omega
  have HM := Lib.hid hm
  clear hm
  have hlk : (L.take k).length = k := by rw [List.length_take]; omega
  have hne : L.take k ≠ [] := fun h => by rw [h] at hlk; simp at hlk; omega
  have HLK := Lib.hid hlk
  have HNE := Lib.hid hne
  clear hlk hne
  have hl1 : (bytes ((r.drop fr).take m)).length = m := by rw [bytes_length]; simp only [List.length_take, List.length_drop]; omega
  have hl2 : (bytes (r.take (k - m))).length = k - m := by rw [bytes_length]; simp only [List.length_take]; omega
  have hpp := peek_pure (k := k) hfr hkL h1 HM.out H.out.at_
  have hff : ∀ x, foot p (some gk) x → ¬ x = w.heap.size := fun x hx => by have := H.out.lt x hx; omega
  have HL1 := Lib.hid hl1
  have HL2 := Lib.hid hl2
  have HP := Lib.hid hpp
  have HF := Lib.hid hff
  clear hl1 hl2 hpp hff
  have hcases : (n ≤ L.length ∧ n = k) ∨ ((L.length : Int) < n ∧ L.length = k) := by omega
  clear hk
  have hfr1 : fr ≤ r.length := by omega
  have hfr2 : ¬ r.length = fr := by omega
  rcases hcases with ⟨hn, rfl⟩ | ⟨hn, hLk⟩
  · by_cases hmk : m < k
    · have hkm : ¬ k = m := by omega
      go_enter Try.func16, Try.ntmps16
      go_wp2_with (first
        | (go_at_call 20; (with_reducible refine (len_any H.out).mono ?_); rintro e w' ⟨rfl, rfl⟩)
        | (at_make; refine wpList_make_blk _ rfl _ _ 33 rfl 5 i5 (.int .u8 0) Try.underlying33 hi hz0 hz1 rfl .i64 .i64 _ _ k rfl rfl rfl rfl (by rw [hz2]; omega) (by unfold maxLen; omega) ?_))
      intro w1 hb1 ho1
      have hch := H.out.only ho1 (fun _ _ => id)
      have c3 := hch.blk.cell 3 _ rfl
      have c4 := hch.blk.cell 4 _ rfl
      simp only [ringVal] at c3
      have HB := Lib.hid hb1
      have HC := Lib.hid hch
      have HO := Lib.hid ho1
      clear hb1 hch ho1
      go_wp2
      go_still_tail 10, (by kernel_rfl)
      refine wpList_copy_blk rfl (.tmp 15) (.tmp 24) 33 33 rfl 5 Try.underlying33 (by kernel_rfl) _ _ _ _ _ _ rfl rfl w.heap.size 0 _ 5 HB.out (bytes ((r.drop fr).take m)) (by rw [HL1.out]; exact HM.out) (fun _ => ⟨rfl, _, rfl, src_cells ((HC.out.ring gk rfl).1) fr m⟩) (by rw [HL1.out, List.length_replicate]; omega) (bytes_one _) ?_
      intro w2 hb2 ho2
      have hch2 := HC.out.only ho2.undrawn HF.out
      have d3 := hch2.blk.cell 3 _ rfl
      simp only [ringVal] at d3
      have HB2 := Lib.hid hb2
      have HC2 := Lib.hid hch2
      have HO2 := Lib.hid ho2
      clear hb2 hch2 ho2
      rw [HL1.out]
      go_wp2
      go_still_tail 7, (by kernel_rfl)
      refine wpList_copy_blk rfl (.tmp 28) (.tmp 32) 33 33 rfl 5 Try.underlying33 (by kernel_rfl) _ _ _ _ _ _ rfl rfl w.heap.size m _ 5 HB2.out (bytes (r.take (k - m))) (by rw [HL2.out]; omega) (fun h0 => ?_) (by rw [HL2.out, length_splice _ _ _ (by rw [HL1.out, List.length_replicate]; omega), List.length_replicate]; omega) (bytes_one _) ?_
      · rw [HL2.out] at h0
        exact ⟨rfl, _, rfl, src_head ((HC2.out.ring gk rfl).1) (k - m)⟩
      · intro w3 hb3 ho3
        rw [map_replicate_zero, bytes_splice, bytes_splice, HP.out] at hb3
        have HB3 := Lib.hid hb3
        have HO3 := Lib.hid ho3
        clear hb3 ho3
        go_wp2
        go_ret
        exact ⟨_, rfl, .inr ⟨w.heap.size, by rw [HLK.out]; rfl, Nat.le_refl _, HB3.out, HNE.out⟩, peek_only HO.out HO2.out.undrawn HO3.out.undrawn⟩
    · obtain rfl : k = m := by omega
      go_enter Try.func16, Try.ntmps16
      go_wp2_with (first
        | (go_at_call 20; (with_reducible refine (len_any H.out).mono ?_); rintro e w' ⟨rfl, rfl⟩)
        | (at_make; refine wpList_make_blk _ rfl _ _ 33 rfl 5 i5 (.int .u8 0) Try.underlying33 hi hz0 hz1 rfl .i64 .i64 _ _ k rfl rfl rfl rfl (by rw [hz2]; omega) (by unfold maxLen; omega) ?_))
      intro w1 hb1 ho1
      have hch := H.out.only ho1 (fun _ _ => id)
      have c3 := hch.blk.cell 3 _ rfl
      have c4 := hch.blk.cell 4 _ rfl
      simp only [ringVal] at c3
      have HB := Lib.hid hb1
      have HC := Lib.hid hch
      have HO := Lib.hid ho1
      clear hb1 hch ho1
      go_wp2
      go_still_tail 10, (by kernel_rfl)
      refine wpList_copy_blk rfl (.tmp 15) (.tmp 24) 33 33 rfl 5 Try.underlying33 (by kernel_rfl) _ _ _ _ _ _ rfl rfl w.heap.size 0 _ 5 HB.out (bytes ((r.drop fr).take k)) (by rw [HL1.out]; exact HM.out) (fun _ => ⟨rfl, _, rfl, src_cells ((HC.out.ring gk rfl).1) fr k⟩) (by rw [HL1.out, List.length_replicate]; omega) (bytes_one _) ?_
      intro w2 hb2 ho2
      have hch2 := HC.out.only ho2.undrawn HF.out
      have d3 := hch2.blk.cell 3 _ rfl
      simp only [ringVal] at d3
      have HB2 := Lib.hid hb2
      have HC2 := Lib.hid hch2
      have HO2 := Lib.hid ho2
      clear hb2 hch2 ho2
      rw [HL1.out]
      go_wp2
      go_still_tail 7, (by kernel_rfl)
      refine wpList_copy_blk rfl (.tmp 28) (.tmp 32) 33 33 rfl 5 Try.underlying33 (by kernel_rfl) _ _ _ _ _ _ rfl rfl w.heap.size k _ 5 HB2.out (bytes (r.take (k - k))) (by rw [HL2.out]; omega) (fun h0 => ?_) (by rw [HL2.out, length_splice _ _ _ (by rw [HL1.out, List.length_replicate]; omega), List.length_replicate]; omega) (bytes_one _) ?_
      · rw [HL2.out] at h0
        omega
      · intro w3 hb3 ho3
        rw [map_replicate_zero, bytes_splice, bytes_splice, HP.out] at hb3
        have HB3 := Lib.hid hb3
        have HO3 := Lib.hid ho3
        clear hb3 ho3
        go_wp2
        go_ret
        exact ⟨_, rfl, .inr ⟨w.heap.size, by rw [HLK.out]; rfl, Nat.le_refl _, HB3.out, HNE.out⟩, peek_only HO.out HO2.out.undrawn HO3.out.undrawn⟩
  · have HLE := Lib.hid hLk
    clear hLk
    by_cases hmk : m < k
    · have hkm : ¬ k = m := by omega
      go_enter Try.func16, Try.ntmps16
      go_wp2_with (first
        | (go_at_call 20; (with_reducible refine (len_any H.out).mono ?_); rintro e w' ⟨rfl, rfl⟩; rw [HLE.out])
        | (at_make; refine wpList_make_blk _ rfl _ _ 33 rfl 5 i5 (.int .u8 0) Try.underlying33 hi hz0 hz1 rfl .i64 .i64 _ _ k rfl rfl rfl rfl (by rw [hz2]; omega) (by unfold maxLen; omega) ?_))
      intro w1 hb1 ho1
      have hch := H.out.only ho1 (fun _ _ => id)
      have c3 := hch.blk.cell 3 _ rfl
      have c4 := hch.blk.cell 4 _ rfl
      simp only [ringVal] at c3
      have HB := Lib.hid hb1
      have HC := Lib.hid hch
      have HO := Lib.hid ho1
      clear hb1 hch ho1
      go_wp2
      go_still_tail 10, (by kernel_rfl)
      refine wpList_copy_blk rfl (.tmp 15) (.tmp 24) 33 33 rfl 5 Try.underlying33 (by kernel_rfl) _ _ _ _ _ _ rfl rfl w.heap.size 0 _ 5 HB.out (bytes ((r.drop fr).take m)) (by rw [HL1.out]; exact HM.out) (fun _ => ⟨rfl, _, rfl, src_cells ((HC.out.ring gk rfl).1) fr m⟩) (by rw [HL1.out, List.length_replicate]; omega) (bytes_one _) ?_
      intro w2 hb2 ho2
      have hch2 := HC.out.only ho2.undrawn HF.out
      have d3 := hch2.blk.cell 3 _ rfl
      simp only [ringVal] at d3
      have HB2 := Lib.hid hb2
      have HC2 := Lib.hid hch2
      have HO2 := Lib.hid ho2
      clear hb2 hch2 ho2
      rw [HL1.out]
      go_wp2
      go_still_tail 7, (by kernel_rfl)
      refine wpList_copy_blk rfl (.tmp 28) (.tmp 32) 33 33 rfl 5 Try.underlying33 (by kernel_rfl) _ _ _ _ _ _ rfl rfl w.heap.size m _ 5 HB2.out (bytes (r.take (k - m))) (by rw [HL2.out]; omega) (fun h0 => ?_) (by rw [HL2.out, length_splice _ _ _ (by rw [HL1.out, List.length_replicate]; omega), List.length_replicate]; omega) (bytes_one _) ?_
      · rw [HL2.out] at h0
        exact ⟨rfl, _, rfl, src_head ((HC2.out.ring gk rfl).1) (k - m)⟩
      · intro w3 hb3 ho3
        rw [map_replicate_zero, bytes_splice, bytes_splice, HP.out] at hb3
        have HB3 := Lib.hid hb3
        have HO3 := Lib.hid ho3
        clear hb3 ho3
        go_wp2
        go_ret
        exact ⟨_, rfl, .inr ⟨w.heap.size, by rw [HLK.out]; rfl, Nat.le_refl _, HB3.out, HNE.out⟩, peek_only HO.out HO2.out.undrawn HO3.out.undrawn⟩
    · obtain rfl : k = m := by omega
      go_enter Try.func16, Try.ntmps16
      go_wp2_with (first
        | (go_at_call 20; (with_reducible refine (len_any H.out).mono ?_); rintro e w' ⟨rfl, rfl⟩; rw [HLE.out])
        | (at_make; refine wpList_make_blk _ rfl _ _ 33 rfl 5 i5 (.int .u8 0) Try.underlying33 hi hz0 hz1 rfl .i64 .i64 _ _ k rfl rfl rfl rfl (by rw [hz2]; omega) (by unfold maxLen; omega) ?_))
      intro w1 hb1 ho1
      have hch := H.out.only ho1 (fun _ _ => id)
      have c3 := hch.blk.cell 3 _ rfl
      have c4 := hch.blk.cell 4 _ rfl
      simp only [ringVal] at c3
      have HB := Lib.hid hb1
      have HC := Lib.hid hch
      have HO := Lib.hid ho1
      clear hb1 hch ho1
      go_wp2
      go_still_tail 10, (by kernel_rfl)
      refine wpList_copy_blk rfl (.tmp 15) (.tmp 24) 33 33 rfl 5 Try.underlying33 (by kernel_rfl) _ _ _ _ _ _ rfl rfl w.heap.size 0 _ 5 HB.out (bytes ((r.drop fr).take k)) (by rw [HL1.out]; exact HM.out) (fun _ => ⟨rfl, _, rfl, src_cells ((HC.out.ring gk rfl).1) fr k⟩) (by rw [HL1.out, List.length_replicate]; omega) (bytes_one _) ?_
      intro w2 hb2 ho2
      have hch2 := HC.out.only ho2.undrawn HF.out
      have d3 := hch2.blk.cell 3 _ rfl
      simp only [ringVal] at d3
      have HB2 := Lib.hid hb2
      have HC2 := Lib.hid hch2
      have HO2 := Lib.hid ho2
      clear hb2 hch2 ho2
      rw [HL1.out]
      go_wp2
      go_still_tail 7, (by kernel_rfl)
      refine wpList_copy_blk rfl (.tmp 28) (.tmp 32) 33 33 rfl 5 Try.underlying33 (by kernel_rfl) _ _ _ _ _ _ rfl rfl w.heap.size k _ 5 HB2.out (bytes (r.take (k - k))) (by rw [HL2.out]; omega) (fun h0 => ?_) (by rw [HL2.out, length_splice _ _ _ (by rw [HL1.out, List.length_replicate]; omega), List.length_replicate]; omega) (bytes_one _) ?_
      · rw [HL2.out] at h0
        omega
      · intro w3 hb3 ho3
        rw [map_replicate_zero, bytes_splice, bytes_splice, HP.out] at hb3
        have HB3 := Lib.hid hb3
        have HO3 := Lib.hid ho3
        clear hb3 ho3
        go_wp2
        go_ret
        exact ⟨_, rfl, .inr ⟨w.heap.size, by rw [HLK.out]; rfl, Nat.le_refl _, HB3.out, HNE.out⟩, peek_only HO.out HO2.out.undrawn HO3.out.undrawn⟩
end
end Go.Proofs.Ytpkaaadnolmidaa
