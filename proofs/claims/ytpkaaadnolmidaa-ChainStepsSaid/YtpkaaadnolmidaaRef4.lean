/- The reference's chain: Put. -/
import Derived.Test.YtpkaaadnolmidaaRef3
import Derived.Test.YtpkaaadnolmidaaWalks7
import Derived.Deep.RegionLaw
namespace Go.Proofs.Ytpkaaadnolmidaa
open Go.RowKit
set_option linter.unusedVariables false
set_option linter.unusedSimpArgs false

def RPutPost (w w' : World) (lo p : Nat) (v : Value) (bound high low : Nat) (L : List Int) (stop : Bool) : Prop :=
  ∃ v', Rc w' lo p v' bound high low L stop ∧ Only (rfoot p v) w w' ∧ (∀ b, v'.ownBlock = some b → v.ownBlock = some b ∨ w.heap.size ≤ b)

/-- One byte more. -/
theorem rput_step {w wr w2 : World} {lo p : Nat} {v v1 v2 : Value} {bound high low : Nat} {T : List Int} {x : Int} {stop : Bool} (hrc : Rc wr lo p v1 bound high low T stop)
    (ho : Only (rfoot p v) w wr) (hf : ∀ b, v1.ownBlock = some b → v.ownBlock = some b ∨ w.heap.size ≤ b) (hT : T.length < bound)
    (hown : w2.ownsRow lo 5 1 v2 (T.length + 1) (bytes T ++ [.int .u8 x])) (hon : Only (fun i => v1.ownBlock = some i) (wr.alloc (.cells #[.int .u8 x] 5)) w2) (hat : v2.ownBlock = v1.ownBlock ∨ v2.ownBlock = some (wr.alloc (.cells #[.int .u8 x] 5)).heap.size) :
    Rc (w2.setCell ⟨p, 3, none⟩ v2) lo p v2 bound high low (T ++ [x]) stop ∧ Only (rfoot p v) w (w2.setCell ⟨p, 3, none⟩ v2) ∧ (∀ b, v2.ownBlock = some b → v.ownBlock = some b ∨ w.heap.size ≤ b) := by
  have hp := (hrc.lt p (.inl rfl)).2
  have hsz := ho.size
  have hbl : Blk w2 p [.int .i64 bound, .int .i64 high, .int .i64 low, v1, .bool stop] 42 := (hrc.blk.alloc _).only hon (fun e => hrc.ne e)
  have hne : v2.ownBlock ≠ some p := by
    rcases hat with h | h
    · rw [h]; exact hrc.ne
    · rw [h]
      intro e
      injection e with e
      simp only [World.size_alloc] at e
      omega
  refine ⟨⟨hbl.set 3 v2, ?_, by rw [List.length_append, List.length_singleton]; omega, hrc.most, hrc.marks, hrc.lo_⟩, ?_, ?_⟩
  · exact owns_only (own_snoc rfl hown) ((Only.refl (fun k => k = p) w2).setCell (p := ⟨p, 3, none⟩) (fun _ => rfl) _) (fun k hk e => hne (by rw [hk, e]))
  · refine ((ho.alloc _).trans hon (fun i hi h => ?_)).setCell (p := ⟨p, 3, none⟩) (fun _ => .inl rfl) _
    rcases hf i h with h2 | h2
    · exact .inr h2
    · omega
  · intro b hb
    rcases hat with h | h
    · exact hf b (by rw [← h]; exact hb)
    · rw [h] at hb
      injection hb with hb
      simp only [World.size_alloc] at hb
      exact .inr (by omega)

/-- Where Put ends, and the chain is not stopped by it. -/
theorem rput_fin {w wr W : World} {lo p j k : Nat} {v v1 : Value} {bound high low : Nat} {L M T : List Int} {stop : Bool} (hT : T = L ++ M.take j) (hk : k = j) (hrc : Rc wr lo p v1 bound high low T stop)
    (ho : Only (rfoot p v) w wr) (hf : ∀ b, v1.ownBlock = some b → v.ownBlock = some b ∨ w.heap.size ≤ b) (hs : j = 0 ∨ T.length < high) (hd : Drawn wr W) :
    RPutPost w W lo p v bound high low (L ++ M.take k) (putStop high k (L ++ M.take k) stop) := by
  subst hk
  rw [← hT]
  have e : putStop high k T stop = stop := by
    unfold putStop
    rcases hs with h | h
    · rw [if_pos h]
    · split
      · rfl
      · rw [decide_eq_false (by omega), Bool.or_false]
  rw [e]
  exact ⟨v1, hrc.drawn hd, ho.trans (hd.only (rfoot p v)) (fun _ _ h => h), hf⟩
theorem rput_fin2 {w wr W : World} {lo p j k : Nat} {v v1 : Value} {bound high low : Nat} {L M T : List Int} {stop : Bool} (hT : T = L ++ M.take j) (hk : k = j) (hrc : Rc wr lo p v1 bound high low T stop)
    (ho : Only (rfoot p v) w wr) (hf : ∀ b, v1.ownBlock = some b → v.ownBlock = some b ∨ w.heap.size ≤ b) (hj : 0 < j) (hs : high ≤ T.length) (hd : Drawn wr W) :
    RPutPost w (W.setCell ⟨p, 4, none⟩ (.bool true)) lo p v bound high low (L ++ M.take k) (putStop high k (L ++ M.take k) stop) := by
  subst hk
  rw [← hT]
  have e : putStop high k T stop = true := by
    unfold putStop
    rw [if_neg (by omega), decide_eq_true hs, Bool.or_true]
  rw [e]
  have h2 := hrc.drawn hd
  refine ⟨v1, ⟨h2.blk.set 4 (.bool true), owns_only h2.own ((Only.refl (fun i => i = p) W).setCell (p := ⟨p, 4, none⟩) (fun _ => rfl) _) (fun b hb e => h2.ne (by rw [hb, e])), h2.max, h2.most, h2.marks, h2.lo_⟩, ?_, hf⟩
  exact (ho.trans (hd.only (rfoot p v)) (fun _ _ h => h)).setCell (p := ⟨p, 4, none⟩) (fun _ => .inl rfl) _

section
variable {w : World} {lo p : Nat} {v : Value} {bound high low : Nat} {L : List Int} {stop : Bool}

set_option maxRecDepth 100000 in
set_option maxHeartbeats 1600000 in
theorem rput_any (h : Rc w lo p v bound high low L stop) (hlo : lo ≤ w.heap.size) (ad : Option Addr) (cap : Nat) (M : List Int) (hsrc : Src w ad cap M) (hdis : 0 < M.length → ∀ gb off, ad = some ⟨gb, off, none⟩ → ¬ rfoot p v gb)
    (k : Nat) (hk : k = min M.length (bound - L.length)) :
    Calls Try.prog 12 #[.pointer (some ⟨p, 0, none⟩), .slice ad M.length cap] w fun e w' => e = .returned (.int .i64 k) ∧ RPutPost w w' lo p v bound high low (L ++ M.take k) (putStop high k (L ++ M.take k) stop) := by
  obtain ⟨i5, hi, hz0, hz1, hz2⟩ := info_parts Try.info5
  have h1 := h.max
  have h3 := h.most
  have hcap := hsrc.le
  have hmax := hsrc.max
  have H := Lib.hid h
  have HS := Lib.hid hsrc
  have HD := Lib.hid hdis
  have HK := Lib.hid hk
  clear h hsrc hdis hk
  go_enter Try.func12, Try.ntmps12
  go_wp2
  go_loopw [5] (fun i wr => ∃ (j : Nat) (v1 : Value), j ≤ M.length ∧ L.length + j ≤ bound ∧ i = .int .i64 j ∧ Rc wr lo p v1 bound high low (L ++ M.take j) stop ∧ Only (rfoot p v) w wr ∧ (∀ b, v1.ownBlock = some b → v.ownBlock = some b ∨ w.heap.size ≤ b)) (fun i _ => M.length - (intOf i).toNat)
  case atStart => exact ⟨0, v, Nat.zero_le _, by omega, rfl, by rw [List.take_zero, List.append_nil]; exact H.out, Only.refl _ _, fun b hb => .inl hb⟩
  case round =>
    obtain ⟨j, v1, hj, hjb, rfl, hrc, hon, hfr⟩ := hrel
    obtain ⟨T, hT⟩ : ∃ T, T = L ++ M.take j := ⟨_, rfl⟩
    have hTl : T.length = L.length + j := by rw [hT, List.length_append, List.length_take]; omega
    rw [← hT] at hrc
    have c3 := hrc.blk.cell 3 _ rfl
    have c0 := hrc.blk.cell 0 _ rfl
    have c1 := hrc.blk.cell 1 _ rfl
    have f3 := hrc.blk.free 3
    have f4 := hrc.blk.free 4
    have c4 := hrc.blk.cell 4 _ rfl
    obtain ⟨ao, bc, rfl, hbc1, hbc2, _, _⟩ := ownsRow_slice hrc.own
    have HT := Lib.hid hT
    have HTL := Lib.hid hTl
    have HR := Lib.hid hrc
    have HN := Lib.hid hon
    have HF := Lib.hid hfr
    clear hT hrc hon hfr
    by_cases hlt : j < M.length
    · have hb1 : decide ((j : Int) < (M.length : Int)) = true := decide_eq_true (by omega)
      by_cases hroom : T.length < bound
      · have hb2 : decide ((T.length : Int) < (bound : Int)) = true := decide_eq_true (by omega)
        clear hTl
        obtain ⟨gb, off, rfl, hgb, hcb⟩ := HS.out.at_ (by omega)
        have hs2 := HS.out.only HN.out (HD.out (by omega))
        have cx := hs2.cells (by omega) j hlt
        obtain ⟨x, hx⟩ : ∃ x, x = M.getD j 0 := ⟨_, rfl⟩
        rw [← hx] at cx
        have hts := take_snoc M j hlt
        rw [← hx] at hts
        have HTS := Lib.hid hts
        have s1 := HN.out.size
        have HX := Lib.hid hx
        clear hts hx hs2 hcb
        go_wp2_with fail
        go_quiet (fail)
        go_wp2_with fail
        generalize hwq : wr.drewN nq = wq
        have hrq : Rc wq lo p (.slice ao T.length bc) bound high low T stop := by rw [← hwq]; exact HR.out.drawn (Drawn.of wr nq)
        have hnq : Only (rfoot p v) w wq := by rw [← hwq]; exact HN.out.drewN nq
        have hsq : Src wq (some ⟨gb, off, none⟩) cap M := by rw [← hwq]; exact (HS.out.only HN.out (HD.out (by omega))).only ((Drawn.of wr nq).only (fun _ => False)) (fun _ _ _ => id)
        have s2 := hnq.size
        have d3 := hrq.blk.cell 3 _ rfl
        have dx := hsq.cells (by omega) j hlt
        rw [← HX.out] at dx
        have g3 := hrq.blk.free 3
        have hpq := hrq.blk.lt
        have hne2 := hrq.ne
        have HNE := Lib.hid hne2
        have HRQ := Lib.hid hrq
        clear hne2
        have HNQ := Lib.hid hnq
        clear hrq hnq hsq hwq c3 c0 c1 c4 f3 f4 cx
        go_wp2_with fail
        go_region_law (refine step_append_row rfl (.tmp 26) (.tmp 31) 33 rfl lo 5 i5 (.int .u8 0) 1 1 Try.underlying33 hi hz0 hz1 hz2 rfl (by decide) (.slice ao T.length bc) T.length (bytes T) rfl (HRQ.out.own.alloc _) (some ⟨wq.heap.size, 0, none⟩) 1 1 [.int .u8 x] rfl rfl (fun _ => ⟨_, rfl, new_one _ _ _⟩) (fun e => by cases e) (one_int _ _) (by unfold maxLen; omega) (by omega) (by first | (simp only [World.size_drew, World.size_alloc]; omega) | (simp only [World.size_alloc]; omega) | (simp; omega)) ?_; intro v2 w2 hown2 hon2 hat2 _; obtain ⟨a2, c2, rfl, _, _, _, _⟩ := ownsRow_slice hown2; have hon3 : Only (fun i => (Value.slice ao T.length bc).ownBlock = some i) (wq.alloc (.cells #[.int .u8 x] 5)) w2 := ⟨hon2.os, hon2.tape, hon2.output, hon2.size, hon2.block⟩; have hb2 := (HRQ.out.blk.alloc (.cells #[.int .u8 x] 5)).only hon3 HNE.out; have e3 := hb2.cell 3 _ rfl; have g3' := hb2.free 3; have HO2 := Lib.hid hown2; have HN2 := Lib.hid hon3; have HA2 := Lib.hid hat2; clear hown2 hon2 hon3 hat2 hb2)
        all_goals
          go_wp2
          have hst := rput_step HRQ.out HNQ.out HF.out hroom HO2.out HN2.out HA2.out
          go_roundw
          case rel => exact ⟨j + 1, _, by omega, by have := HTL.out; omega, by go_num, by rw [← HTS.out, ← List.append_assoc, ← HT.out]; exact hst.1, hst.2.1, hst.2.2⟩
          case measure => simp [intOf]; omega
      · have hkj : k = j := by have := HK.out; have := HTL.out; omega
        have HKJ := Lib.hid hkj
        clear hkj
        have hb2 : decide ((T.length : Int) < (bound : Int)) = false := decide_eq_false (by omega)
        rcases (show j = 0 ∨ (0 < j ∧ high ≤ T.length) ∨ (0 < j ∧ T.length < high) by omega) with hj0 | ⟨hj0, hh⟩ | ⟨hj0, hh⟩
        · obtain rfl : j = 0 := hj0
          go_wp2_with fail
          go_quiet (fail)
          go_wp2_with fail
          go_quiet (fail)
          go_wp2_with fail
          go_ret
          exact ⟨ret_int (by rw [HKJ.out]), rput_fin HT.out HKJ.out HR.out HN.out HF.out (.inl rfl) (by first | exact Drawn.of _ _ | exact (Drawn.of _ _).trans (Drawn.of _ _))⟩
        · have g1 : decide ((0 : Int) < (j : Int)) = true := decide_eq_true (by omega)
          have g2 : decide ((high : Int) ≤ (T.length : Int)) = true := decide_eq_true (by omega)
          go_wp2_with fail
          go_quiet (fail)
          go_wp2_with fail
          go_quiet (fail)
          go_wp2_with fail
          go_ret
          exact ⟨ret_int (by rw [HKJ.out]), rput_fin2 HT.out HKJ.out HR.out HN.out HF.out hj0 hh (by first | exact Drawn.of _ _ | exact (Drawn.of _ _).trans (Drawn.of _ _))⟩
        · have g1 : decide ((0 : Int) < (j : Int)) = true := decide_eq_true (by omega)
          have g2 : decide ((high : Int) ≤ (T.length : Int)) = false := decide_eq_false (by omega)
          go_wp2_with fail
          go_quiet (fail)
          go_wp2_with fail
          go_quiet (fail)
          go_wp2_with fail
          go_ret
          exact ⟨ret_int (by rw [HKJ.out]), rput_fin HT.out HKJ.out HR.out HN.out HF.out (.inr hh) (by first | exact Drawn.of _ _ | exact (Drawn.of _ _).trans (Drawn.of _ _))⟩
    · have hkj : k = j := by have := HK.out; have := HTL.out; omega
      have HKJ := Lib.hid hkj
      clear hkj
      have hb1 : decide ((j : Int) < (M.length : Int)) = false := decide_eq_false (by omega)
      rcases (show j = 0 ∨ (0 < j ∧ high ≤ T.length) ∨ (0 < j ∧ T.length < high) by omega) with hj0 | ⟨hj0, hh⟩ | ⟨hj0, hh⟩
      · obtain rfl : j = 0 := hj0
        go_wp2_with fail
        go_quiet (fail)
        go_wp2_with fail
        go_quiet (fail)
        go_wp2_with fail
        go_ret
        exact ⟨ret_int (by rw [HKJ.out]), rput_fin HT.out HKJ.out HR.out HN.out HF.out (.inl rfl) (by first | exact Drawn.of _ _ | exact (Drawn.of _ _).trans (Drawn.of _ _))⟩
      · have g1 : decide ((0 : Int) < (j : Int)) = true := decide_eq_true (by omega)
        have g2 : decide ((high : Int) ≤ (T.length : Int)) = true := decide_eq_true (by omega)
        go_wp2_with fail
        go_quiet (fail)
        go_wp2_with fail
        go_quiet (fail)
        go_wp2_with fail
        go_ret
        exact ⟨ret_int (by rw [HKJ.out]), rput_fin2 HT.out HKJ.out HR.out HN.out HF.out hj0 hh (by first | exact Drawn.of _ _ | exact (Drawn.of _ _).trans (Drawn.of _ _))⟩
      · have g1 : decide ((0 : Int) < (j : Int)) = true := decide_eq_true (by omega)
        have g2 : decide ((high : Int) ≤ (T.length : Int)) = false := decide_eq_false (by omega)
        go_wp2_with fail
        go_quiet (fail)
        go_wp2_with fail
        go_quiet (fail)
        go_wp2_with fail
        go_ret
        exact ⟨ret_int (by rw [HKJ.out]), rput_fin HT.out HKJ.out HR.out HN.out HF.out (.inr hh) (by first | exact Drawn.of _ _ | exact (Drawn.of _ _).trans (Drawn.of _ _))⟩
end
end Go.Proofs.Ytpkaaadnolmidaa
