/- The reference's chain: Peek, Take, Put. -/
import Derived.Test.YtpkaaadnolmidaaRef1
namespace Go.Proofs.Ytpkaaadnolmidaa
open Go.RowKit
set_option linter.unusedVariables false
set_option linter.unusedSimpArgs false

theorem Rc.lower {w : World} {lo lo' p : Nat} {v : Value} {bound high low : Nat} {L : List Int} {stop : Bool} (h : Rc w lo p v bound high low L stop) (hl : lo' ≤ lo) : Rc w lo' p v bound high low L stop :=
  ⟨h.blk, ownsRow_lower h.own hl, h.max, h.most, h.marks, Nat.le_trans hl h.lo_⟩
theorem take_snoc (L : List Int) (k : Nat) (hk : k < L.length) : L.take k ++ [L.getD k 0] = L.take (k + 1) := by
  rw [List.take_succ_eq_append_getElem hk, List.getD_eq_getElem?_getD, List.getElem?_eq_getElem hk]
  rfl
theorem bytes_snoc (L : List Int) (x : Int) : bytes L ++ [.int .u8 x] = bytes (L ++ [x]) := by
  unfold bytes
  rw [List.map_append]
  rfl
/-- Behind an append of one byte. -/
theorem own_snoc {w : World} {lo n : Nat} {v : Value} {L : List Int} {x : Int} (hn : n = L.length) (h : w.ownsRow lo 5 1 v (n + 1) (bytes L ++ [.int .u8 x])) : Own w lo v (L ++ [x]) := by
  subst hn
  unfold Own
  rw [List.length_append, List.length_singleton, ← bytes_snoc]
  exact h

structure RPeekPost (w w' : World) (v : Value) (L : List Int) : Prop where
  own : Own w' w.heap.size v L
  only : Only (fun _ => False) w w'

section
variable {w : World} {lo p : Nat} {v : Value} {bound high low : Nat} {L : List Int} {stop : Bool}

set_option maxRecDepth 100000 in
set_option maxHeartbeats 800000 in
theorem rpeek_any (h : Rc w lo p v bound high low L stop) (n : Int) :
    Calls Try.prog 17 #[.pointer (some ⟨p, 0, none⟩), .int .i64 n] w fun e w' => ∃ u, e = .returned u ∧ RPeekPost w w' u (L.take n.toNat) := by
  obtain ⟨i5, hi, hz0, hz1, hz2⟩ := info_parts Try.info5
  have h1 := h.max
  have h3 := h.most
  obtain ⟨ao, cap, rfl, hlc, hcm, hnil, hsome⟩ := ownsRow_slice h.own
  have H := Lib.hid h
  have HS := Lib.hid hsome
  clear h hsome hnil
  go_enter Try.func17, Try.ntmps17
  go_wp2
  go_loopw [5, 6] (fun out i wr => ∃ k : Nat, k ≤ L.length ∧ (k = 0 ∨ (k : Int) ≤ n) ∧ i = .int .i64 k ∧ Own wr w.heap.size out (L.take k) ∧ Only (fun _ => False) w wr) (fun _ i _ => L.length - (intOf i).toNat)
  case atStart => exact ⟨0, Nat.zero_le _, .inl rfl, rfl, World.ownsRow_nil _ _ _ _, Only.refl _ _⟩
  case round =>
    obtain ⟨k, hk, hkn, rfl, hown, hon⟩ := hrel
    have hrc := H.out.only hon (fun _ _ => id)
    have c3 := hrc.blk.cell 3 _ rfl
    have HO := Lib.hid hown
    have HN := Lib.hid hon
    have HR := Lib.hid hrc
    clear hown hon hrc
    by_cases hn : (k : Int) < n
    · by_cases hlt : k < L.length
      · obtain ⟨g, rfl, hg⟩ := HS.out (by omega)
        have cq := own_cell HR.out.own hg k hlt
        obtain ⟨y, hy⟩ : ∃ y, y = L.getD k 0 := ⟨_, rfl⟩
        rw [← hy] at cq
        have hts := take_snoc L k hlt
        rw [← hy] at hts
        have hlk : (L.take k).length = k := by rw [List.length_take]; omega
        have HY := Lib.hid hts
        have HLK := Lib.hid hlk
        have hsz := HN.out.size
        clear hy hg hts hlk hkn
        go_wp2_with (first
          | (at_builtin; refine wpList_append_row rfl (.tmp 21) (.tmp 29) 33 rfl w.heap.size 5 i5 (.int .u8 0) 1 1 Try.underlying33 hi hz0 hz1 hz2 rfl (by decide) _ _ _ rfl (HO.out.alloc _) (some ⟨wr.heap.size, 0, none⟩) 1 1 [.int .u8 y] rfl rfl (fun _ => ⟨_, rfl, new_one _ _ _⟩) (fun e => by cases e) (one_int _ _) (by rw [HLK.out]; unfold maxLen; omega) (by rw [HLK.out]; omega) (by simp only [World.size_alloc]; omega) ?_))
        intro v' w1 hown' hon' _ _
        have hown2 := own_snoc (by rw [HLK.out]) hown'
        rw [HY.out] at hown2
        have HO2 := Lib.hid hown2
        have HN2 := Lib.hid hon'
        clear hown' hon' hown2
        go_wp2
        go_roundw
        case rel => exact ⟨k + 1, by omega, by omega, by go_num, HO2.out, (HN.out.alloc _).trans HN2.out (fun i hi h => by have := ownsRow_lt HO.out i h; omega)⟩
        case measure => simp [intOf]; omega
      · go_wp2
        go_ret
        refine ⟨_, rfl, ?_, HN.out⟩
        rw [show L.take n.toNat = L.take k by rw [List.take_of_length_le (by omega), List.take_of_length_le (by omega)]]
        exact HO.out
    · go_wp2
      go_ret
      refine ⟨_, rfl, ?_, HN.out⟩
      rw [show n.toNat = k by omega]
      exact HO.out
end
end Go.Proofs.Ytpkaaadnolmidaa
