/- The reference: end. -/
import Derived.Test.YtlcblfkmadjppaaGWalks2
namespace Go.Proofs.Ytlcblfkmadjppaa
open Go.RowKit
set_option linter.unusedVariables false
set_option linter.unusedSimpArgs false

section
variable {w : World} {lo p : Nat} {r : Rq} {I B : List Int} {vi vb vo : Value} {o : List Ac}
theorem Gw.re {r' : Rq} (h : Gw w lo p r I vi B vb o vo) (e : gqCells r' vi vb vo = gqCells r vi vb vo) : Gw w lo p r' I vi B vb o vo := ⟨by rw [e]; exact h.blk, h.ids, h.beg, h.out, h.low, h.ne⟩
theorem ids_keep_take (l : List Run) (id : Int) (j : Nat) (hj : j < l.length) : idsOf (keep (l.take (j + 1)) id) = idsOf (keep (l.take j) id) ++ (if ((runAt l j).id : Int) = id then [] else [((runAt l j).id : Int)]) ∧
    sincesOf (keep (l.take (j + 1)) id) = sincesOf (keep (l.take j) id) ++ (if ((runAt l j).id : Int) = id then [] else [((runAt l j).since : Int)]) := by
  rw [keep_take l id j hj]
  unfold idsOf sincesOf
  rw [List.map_append, List.map_append]
  split <;> exact ⟨rfl, rfl⟩

/-- What end has built of the first j. -/
structure EndI (w wr : World) (l : List Run) (id : Int) (j : Nat) (v4 v5 : Value) : Prop where
  ids : Ints wr w.heap.size v4 (idsOf (keep (l.take j) id))
  beg : Ints wr w.heap.size v5 (sincesOf (keep (l.take j) id))
  ne : ∀ k, v4.ownBlock = some k → v5.ownBlock ≠ some k
  only : Only (fun _ => False) w wr
theorem fresh_only {w wr w2 : World} {v : Value} {lo : Nat} {l : List Int} (h : Ints wr lo v l) (hl : lo = w.heap.size) (ho : Only (fun _ => False) w wr) {wa : World} (ha : Only (fun _ => False) wr wa) (hon : Only (fun k => v.ownBlock = some k) wa w2) : Only (fun _ => False) w w2 := by
  subst hl
  exact (ho.trans ha (fun _ _ h => h)).trans hon (fun k hk e => by have := (ownsRow_lt h k e).1; omega)

def EndP (w w' : World) (lo p : Nat) (r : Rq) (o : List Ac) (vo : Value) : Prop := ∃ vi vb, GQ w' lo p r vi vb o vo ∧ Mv (pfoot p vo) (gfoot p vi vb vo) w w'
set_option maxRecDepth 100000 in
set_option maxHeartbeats 3200000 in
theorem gend_any (h : GQ w lo p r vi vb o vo) (hl9 : r.runs.length ≤ 20) (hid9 : ∀ x ∈ r.runs, x.id < 1000000 ∧ x.since ≤ 4611686018427387904) (id : Int) :
    Calls Try.prog 35 #[.pointer (some ⟨p, 0, none⟩), .int .i64 id] w fun e w' => e = .returned (.tuple #[]) ∧ EndP w w' lo p (endR r id) o vo := by
  obtain ⟨i3, hi3, hz30, hz31, hz32⟩ := info_parts Try.info3
  unfold GQ at h
  obtain ⟨ai, ci, rfl, hci1, hci2, _, _⟩ := ownsRow_slice h.ids
  obtain ⟨ab, cb, rfl, hcb1, hcb2, _, _⟩ := ownsRow_slice h.beg
  have hcm : ci ≤ 9223372036854775807 := by unfold maxLen at hci2; omega
  have hcm2 : cb ≤ 9223372036854775807 := by unfold maxLen at hcb2; omega
  obtain ⟨kk, hkk⟩ : ∃ kk, kk = r.runs.length := ⟨_, rfl⟩
  rw [idsOf_len, ← hkk] at hci1 h
  rw [sincesOf_len, ← hkk] at hcb1 h
  rw [← hkk] at hl9
  have c11 := h.blk.cell 11 _ rfl
  have hpl := h.blk.lt
  have H := Lib.hid h
  have HKK := Lib.hid hkk
  have HID := Lib.hid hid9
  clear h hkk hci2 hcb2 hid9
  go_enter Try.func35, Try.ntmps35
  go_upto_region 2 with fail
  clear c11
  go_loopw [4, 5, 6, 7, 13] (fun v4 v5 _ _ i wr => ∃ j : Nat, j ≤ kk ∧ i = .int .i64 j ∧ EndI w wr r.runs id j v4 v5) (fun _ _ _ _ i _ => kk - (intOf i).toNat)
  case atStart => exact ⟨0, Nat.zero_le _, rfl, World.ownsRow_nil _ _ _ _, World.ownsRow_nil _ _ _ _, (fun k hk => by cases hk), Only.refl _ _⟩
  case round =>
    obtain ⟨j, hj, rfl, hI⟩ := hrel
    have hi4 := hI.ids
    have hi5 := hI.beg
    unfold Ints at hi4 hi5
    obtain ⟨a4, k4, rfl, hb41, hb42, _, _⟩ := ownsRow_slice hi4
    obtain ⟨a5, k5, rfl, hb51, hb52, _, _⟩ := ownsRow_slice hi5
    have hk4m : k4 ≤ 9223372036854775807 := by unfold maxLen at hb42; omega
    have hk5m : k5 ≤ 9223372036854775807 := by unfold maxLen at hb52; omega
    obtain ⟨n, hn⟩ : ∃ n, n = (keep (r.runs.take j) id).length := ⟨_, rfl⟩
    have hnl : n ≤ j := by rw [hn]; have := keep_len (r.runs.take j) id; rw [List.length_take] at this; omega
    rw [idsOf_len, ← hn] at hi4 hb41 hI ⊢
    rw [sincesOf_len, ← hn] at hi5 hb51 hI ⊢
    have HN := Lib.hid hn
    have HI := Lib.hid hI
    have HI4 := Lib.hid hi4
    have HI5 := Lib.hid hi5
    have hwz := hI.only.size
    clear hn hI hi4 hi5 hb42 hb52
    by_cases hlt : j < kk
    · have hjr : j < r.runs.length := by rw [← HKK.out]; exact hlt
      have hHr := H.out.only HI.out.only (fun _ _ h => h)
      obtain ⟨g, rfl, hgl, e0⟩ := ints_at hHr.ids (ao := ai) (n := kk) (cap := ci) rfl (i := j) (by rw [idsOf_len]; exact hjr)
      rw [idsOf_get hjr] at e0
      obtain ⟨gb, rfl, hgbl, e1⟩ := ints_at hHr.beg (ao := ab) (n := kk) (cap := cb) rfl (i := j) (by rw [sincesOf_len]; exact hjr)
      rw [sincesOf_get hjr] at e1
      obtain ⟨hk1, hk2⟩ := ids_keep_take r.runs id j hjr
      obtain ⟨x, hx⟩ : ∃ x, x = runAt r.runs j := ⟨_, rfl⟩
      obtain ⟨hx1, hx2⟩ := HID.out x (by rw [hx, runAt_eq hjr]; exact List.getElem_mem hjr)
      rw [← hx] at e0 e1 hk1 hk2
      have HHR := Lib.hid hHr
      clear hHr hx hjr
      by_cases he : (x.id : Int) = id
      · have fe : ((x.id : Int) == id) = true := beq_iff_eq.2 he
        have fe2 : ((x.id : Int) != id) = false := by simp [he]
        rw [if_pos he, List.append_nil] at hk1 hk2
        have HK1 := Lib.hid hk1
        have HK2 := Lib.hid hk2
        clear hk1 hk2 he
        go_wp2_with fail
        go_roundw
        case rel => exact ⟨j + 1, by omega, by go_num, by unfold Ints; rw [HK1.out]; exact HI.out.ids, by unfold Ints; rw [HK2.out]; exact HI.out.beg, HI.out.ne, HI.out.only⟩
        case measure => simp [intOf]; omega
      · have fe : ((x.id : Int) == id) = false := beq_eq_false_iff_ne.2 he
        have fe2 : ((x.id : Int) != id) = true := by simp [he]
        rw [if_neg he] at hk1 hk2
        have HK1 := Lib.hid hk1
        have HK2 := Lib.hid hk2
        clear hk1 hk2 he
        go_upto_region 6 with (at_builtin; refine wpList_append_row rfl (.tmp 21) (.tmp 23) 39 rfl w.heap.size 3 i3 (.int .i64 0) 1 8 Try.underlying39 hi3 hz30 hz31 hz32 rfl (by decide) (.slice a4 n k4) n (ints (idsOf (keep (r.runs.take j) id))) rfl (HI4.out.alloc _) (some ⟨wr.heap.size, 0, none⟩) 1 1 [.int .i64 x.id] rfl rfl (fun _ => ⟨_, rfl, new_one _ _ _⟩) (fun e => by cases e) (one_int _ _) (by unfold maxLen; omega) (by omega) (by simp only [World.size_alloc]; omega) ?_)
        intro v6 w6 hown6 hon6 hat6 _
        obtain ⟨a6, k6, rfl, _, hk62, _, _⟩ := ownsRow_slice hown6
        have hk6m : k6 ≤ 9223372036854775807 := by unfold maxLen at hk62; omega
        have ho6 := fresh_only HI.out.ids rfl HI.out.only ((Only.refl _ wr).alloc (.cells #[.int .i64 x.id] 3)) hon6
        have hb6 : w6.ownsRow w.heap.size 3 1 (.slice a5 n k5) n (ints (sincesOf (keep (r.runs.take j) id))) := owns_only (HI5.out.alloc _) hon6 (fun k hk e => HI.out.ne k e hk)
        have hne6 : ∀ k, (Value.slice a6 (n + 1) k6).ownBlock = some k → (Value.slice a5 n k5).ownBlock ≠ some k := fun k hk e => by
          rcases hat6 with e6 | e6
          · exact HI.out.ne k (by rw [← e6]; exact hk) e
          · rw [e6] at hk
            injection hk with hk
            have := (ownsRow_lt HI5.out k e).2
            first | omega | (simp only [World.size_alloc] at hk; omega)
        have c12 : w6.cell? ⟨p, 12, none⟩ = some (.slice (some ⟨gb, 0, none⟩) kk cb) := (H.out.only ho6 (fun _ _ h => h)).blk.cell 12 _ rfl
        have hpl6 := (H.out.only ho6 (fun _ _ h => h)).blk.lt
        have hbr := (H.out.only HI.out.only (fun _ _ h => h)).beg
        have e16 : w6.cell? ⟨gb, j, none⟩ = some (.int .i64 x.since) := by
          have hb := ((Only.refl (fun _ => False) wr).alloc (.cells #[.int .i64 x.id] 3)).block gb hgbl (fun h => h)
          have h2 : gb < (wr.alloc (.cells #[.int .i64 x.id] 3)).heap.size := by simp only [World.size_alloc]; omega
          have hw := hon6.block gb h2 (fun e => by
            have := (ownsRow_lt HI4.out gb e).1
            have h0 := ownsRow_lt H.out.beg gb rfl
            omega)
          exact (World.cell?_of_block (a := ⟨gb, j, none⟩) (hw.trans hb)).trans e1
        have hgb6 : gb < w6.heap.size := by have := hon6.size; simp only [World.size_alloc] at this; omega
        have hw6z := ho6.size
        have HW6 := Lib.hid hown6
        have HO6 := Lib.hid ho6
        have HB6 := Lib.hid hb6
        have HNE6 := Lib.hid hne6
        clear hown6 hon6 hat6 ho6 hb6 hne6 hbr hk62 e0 e1 hgl hgbl
        go_upto_region 6 with fail
        go_upto_region 7 with (at_builtin; refine wpList_append_row rfl (.tmp 25) (.tmp 33) 39 rfl w.heap.size 3 i3 (.int .i64 0) 1 8 Try.underlying39 hi3 hz30 hz31 hz32 rfl (by decide) (.slice a5 n k5) n (ints (sincesOf (keep (r.runs.take j) id))) rfl (HB6.out.alloc _) (some ⟨w6.heap.size, 0, none⟩) 1 1 [.int .i64 x.since] rfl rfl (fun _ => ⟨_, rfl, new_one _ _ _⟩) (fun e => by cases e) (one_int _ _) (by unfold maxLen; omega) (by omega) (by simp only [World.size_alloc]; omega) ?_)
        intro v7 w7 hown7 hon7 hat7 _
        obtain ⟨a7, k7, rfl, _, _, _, _⟩ := ownsRow_slice hown7
        have hl5 : (sincesOf (keep (r.runs.take j) id)).length = n := by rw [sincesOf_len, ← HN.out]
        have hl4 : (idsOf (keep (r.runs.take j) id)).length = n := by rw [idsOf_len, ← HN.out]
        have ho7 : Only (fun _ => False) w w7 := (HO6.out.alloc _).trans hon7 (fun k hk e => by have := (ownsRow_lt HB6.out k e).1; omega)
        have hi7 : w7.ownsRow w.heap.size 3 1 (.slice a6 (n + 1) k6) (n + 1) (ints (idsOf (keep (r.runs.take j) id)) ++ [.int .i64 x.id]) := owns_only (HW6.out.alloc _) hon7 (fun k hk e => HNE6.out k hk e)
        have hne7 : ∀ k, (Value.slice a6 (n + 1) k6).ownBlock = some k → (Value.slice a7 (n + 1) k7).ownBlock ≠ some k := fun k hk e => by
          rcases hat7 with e7 | e7
          · exact HNE6.out k hk (by rw [← e7]; exact e)
          · rw [e7] at e
            injection e with e
            have := (ownsRow_lt HW6.out k hk).2
            first | omega | (simp only [World.size_alloc] at e; omega)
        have HI7 := Lib.hid hi7
        have HW7 := Lib.hid hown7
        have HO7 := Lib.hid ho7
        have HNE7 := Lib.hid hne7
        have HL4 := Lib.hid hl4
        have HL5 := Lib.hid hl5
        clear hi7 hown7 hon7 hat7 ho7 hne7 hl4 hl5 c12 e16
        go_wp2_with fail
        go_roundw
        case rel =>
          refine ⟨j + 1, by omega, by go_num, ?_, ?_, HNE7.out, HO7.out⟩
          · unfold Ints
            rw [HK1.out, List.length_append, List.length_singleton, HL4.out, ints_append]
            exact HI7.out
          · unfold Ints
            rw [HK2.out, List.length_append, List.length_singleton, HL5.out, ints_append]
            exact HW7.out
        case measure => simp [intOf]; omega
    · have hke : keep (r.runs.take j) id = keep r.runs id := by rw [List.take_of_length_le (by rw [← HKK.out]; omega)]
      have HKE := Lib.hid hke
      have hHr := H.out.only HI.out.only (fun _ _ h => h)
      have c11 := hHr.blk.cell 11 _ rfl
      have f11 := hHr.blk.free 11
      have hplr := hHr.blk.lt
      have hfr4 : ∀ k, (Value.slice a4 n k4).ownBlock = some k → w.heap.size ≤ k := fun k hk => (ownsRow_lt HI4.out k hk).1
      have hfr5 : ∀ k, (Value.slice a5 n k5).ownBlock = some k → w.heap.size ≤ k := fun k hk => (ownsRow_lt HI5.out k hk).1
      have hlow := (H.out.lt p (.inl rfl)).1
      have hlo : lo ≤ w.heap.size := by have := H.out.blk.lt; omega
      have h1 := hHr.setIds (v := .slice a4 n k4) (I' := idsOf (keep (r.runs.take j) id)) (ownsRow_lower (by rw [idsOf_len, ← HN.out]; exact HI4.out) hlo) (fun e => by have := hfr4 p e; have := H.out.blk.lt; omega) (fun k hk e => by have := hfr4 k hk; have := (ownsRow_lt H.out.beg k e).2; omega)
      have m1 := only_p wr p 11 (.slice a4 n k4)
      have hi5b := owns_only HI5.out m1 (fun k hk e => by have := hfr5 k hk; have := H.out.blk.lt; omega)
      have HFR4 := Lib.hid hfr4
      have HFR5 := Lib.hid hfr5
      clear hke hHr hfr4 hfr5 hlow
      go_upto_region 9 with fail
      generalize wr.setCell ⟨p, 11, none⟩ (.slice a4 n k4) = w2 at h1 m1 hi5b ⊢
      have c12 := h1.blk.cell 12 _ rfl
      have f12 := h1.blk.free 12
      have hpl2 := h1.blk.lt
      have h2 := h1.setBeg (v := .slice a5 n k5) (B' := sincesOf (keep (r.runs.take j) id)) (ownsRow_lower (by rw [sincesOf_len, ← HN.out]; exact hi5b) hlo) (fun e => by have := HFR5.out p e; have := H.out.blk.lt; omega) (fun k hk e => HI.out.ne k hk e)
      have m2 := only_p w2 p 12 (.slice a5 n k5)
      have H2 := Lib.hid h2
      have M1 := Lib.hid m1
      have M2 := Lib.hid m2
      clear h1 h2 m1 m2 hi5b
      go_wp2_with fail
      go_end0
      have hg := H2.out.re (r' := endR r id) rfl
      rw [HKE.out] at hg
      refine ⟨rfl, _, _, hg, ⟨((HI.out.only.mono (fun _ _ h => h.elim)).trans M1.out (fun k _ e => .inl e)).trans M2.out (fun k _ e => .inl e), fun k hk => ?_⟩⟩
      rcases hk with hk | hk | hk | hk
      · exact .inl (.inl hk)
      · exact .inr (HFR4.out k hk)
      · exact .inr (HFR5.out k hk)
      · exact .inl (.inr hk)
end
end Go.Proofs.Ytlcblfkmadjppaa
