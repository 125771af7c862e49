/- chain.grow. -/
import Derived.Test.YtpkaaadnolmidaaWalks4
namespace Go.Proofs.Ytpkaaadnolmidaa
open Go.RowKit
set_option linter.unusedVariables false

theorem OwnBytes.shape {w : World} {lo : Nat} {v : Value} {L : List Int} (h : OwnBytes w lo v L) :
    ∃ sp, v = .slice sp L.length L.length ∧ (0 < L.length → ∃ g, sp = some ⟨g, 0, none⟩ ∧ lo ≤ g ∧ Blk w g (bytes L) 5) := by
  rcases h with ⟨rfl, rfl⟩ | ⟨g, h1, h2, h3, _⟩
  · exact ⟨none, rfl, fun h => absurd h (by simp)⟩
  · exact ⟨_, h1, fun _ => ⟨g, rfl, h2, h3⟩⟩

def GrowPost (w w' : World) (p : Nat) (g : Option Nat) (bound high low size : Nat) (L : List Int) (stop : Bool) : Prop :=
  ∃ g' r' fr', Ch w' p g' r' fr' bound high low L stop ∧ size ≤ r'.length ∧ Only (fun k => k = p) w w' ∧ (g' = g ∨ ∃ b, g' = some b ∧ w.heap.size ≤ b)

section
variable {w : World} {p : Nat} {g : Option Nat} {r : List Int} {fr bound high low : Nat} {L : List Int} {stop : Bool}

theorem grow_less (h : Ch w p g r fr bound high low L stop) (size : Nat) (hs : size ≤ r.length) :
    Calls Try.prog 23 #[.pointer (some ⟨p, 0, none⟩), .int .i64 size] w fun e w' => e = .returned (.tuple #[]) ∧ w = w' := by
  have c3 := h.blk.cell 3 _ rfl
  obtain ⟨ao, hv⟩ : ∃ ao, ringVal g r = .slice ao r.length r.length := by
    cases g with
    | none => rw [(h.nil rfl).1]; exact ⟨none, rfl⟩
    | some k => exact ⟨_, rfl⟩
  rw [hv] at c3
  clear hv h
  go_enter Try.func23, Try.ntmps23
  go_wp2
  first | go_end0 | refine bodyPost_ret (results_none rfl _ _ _) rfl ?_
  exact ⟨rfl, rfl⟩

theorem grow_pure {L : List Int} {R : Nat} (h : L.length ≤ R) :
    (splice (List.replicate R 0) 0 L).length = R ∧ ∀ i, i < L.length → (splice (List.replicate R 0) 0 L).getD ((0 + i) % R) 0 = L.getD i 0 := by
  refine ⟨by rw [length_splice _ _ _ (by rw [List.length_replicate]; omega), List.length_replicate], fun i hi => ?_⟩
  rw [splice_getD _ _ _ _ (by rw [List.length_replicate]; omega), Nat.zero_add, Nat.mod_eq_of_lt (by omega), if_pos ⟨by omega, by omega⟩, Nat.sub_zero]

theorem own_src {w : World} {sp : Option Addr} {lo : Nat} {L : List Int} (h : 0 < L.length → ∃ g, sp = some ⟨g, 0, none⟩ ∧ lo ≤ g ∧ Blk w g (bytes L) 5) (h0 : 0 < (bytes L).length) :
    ∃ ad, sp = some ad ∧ ∀ j v, (bytes L)[j]? = some v → w.cell? (ad.add j) = some v := by
  rw [bytes_length] at h0
  obtain ⟨g, e, _, hb⟩ := h h0
  have := src_head hb L.length
  rw [List.take_length] at this
  exact ⟨_, e, this⟩

/-- Behind the two stores: the chain stands over the new ring. -/
theorem grow_fin {w w3 : World} {p : Nat} {g : Option Nat} {r : List Int} {fr bound high low size R : Nat} {L : List Int} {stop : Bool} (h : Ch w p g r fr bound high low L stop)
    (ho : Only (fun k => k = p) w w3) (hb : Blk w3 w.heap.size (bytes (splice (List.replicate R 0) 0 L)) 5) (hc : Ch w3 p g r fr bound high low L stop) (h1 : 1 ≤ R) (h2 : size ≤ R) (h3 : R ≤ bound) (h4 : L.length ≤ size) :
    GrowPost w ((w3.setCell ⟨p, 3, none⟩ (.slice (some ⟨w.heap.size, 0, none⟩) R R)).setCell ⟨p, 4, none⟩ (.int .i64 0)) p g bound high low size L stop := by
  obtain ⟨hl, hat⟩ := grow_pure (L := L) (R := R) (by omega)
  have hp := h.lt p (.inl rfl)
  refine ⟨some w.heap.size, splice (List.replicate R 0) 0 L, 0, ⟨?_, (fun e => by cases e), fun k hk => ?_, by omega, by omega, h.most, h.marks, ?_⟩, by omega, (ho.setCell (p := ⟨p, 3, none⟩) (fun _ => rfl) _).setCell (p := ⟨p, 4, none⟩) (fun _ => rfl) _, .inr ⟨_, rfl, Nat.le_refl _⟩⟩
  · have := (hc.blk.set 3 (.slice (some ⟨w.heap.size, 0, none⟩) R R)).set 4 (.int .i64 0)
    simp only [ringVal, hl]
    exact this
  · cases hk
    exact ⟨(hb.far (a := ⟨p, 3, none⟩) (by simp only []; omega) _).far (a := ⟨p, 4, none⟩) (by simp only []; omega) _, by omega, by omega⟩
  · intro i hi
    rw [hl]
    exact hat i hi

set_option maxRecDepth 100000 in
set_option maxHeartbeats 800000 in
theorem grow_more (h : Ch w p g r fr bound high low L stop) (size R : Nat) (hs : r.length < size) (hb : size ≤ bound) (hR : R = min bound (2 * size)) :
    Calls Try.prog 23 #[.pointer (some ⟨p, 0, none⟩), .int .i64 size] w fun e w' => e = .returned (.tuple #[]) ∧ GrowPost w w' p g bound high low size L stop := by
  obtain ⟨i5, hi, hz0, hz1, hz2⟩ := info_parts Try.info5
  have c3 := h.blk.cell 3 _ rfl
  have c0 := h.blk.cell 0 _ rfl
  have h1 := h.fit
  have h2 := h.max
  have h3 := h.most
  obtain ⟨ao, hv⟩ : ∃ ao, ringVal g r = .slice ao r.length r.length := by
    cases g with
    | none => rw [(h.nil rfl).1]; exact ⟨none, rfl⟩
    | some k => exact ⟨_, rfl⟩
  rw [hv] at c3
  have hltp := h.lt p (.inl rfl)
  have hgp := grow_pure (L := L) (R := R) (by omega)
  have HG := Lib.hid hgp
  have H := Lib.hid h
  clear hv h hgp
  have hcases : (bound ≤ 2 * size ∧ R = bound) ∨ (2 * size < bound ∧ R = 2 * size) := by omega
  have hR1 : 1 ≤ R ∧ size ≤ R ∧ R ≤ bound := by omega
  clear hR
  rcases hcases with ⟨hc, rfl⟩ | ⟨hc, rfl⟩
  · go_enter Try.func23, Try.ntmps23
    go_wp2_with (first
      | (at_make; refine wpList_make_blk _ rfl _ _ 33 rfl 5 i5 (.int .u8 0) Try.underlying33 hi hz0 hz1 rfl .i64 .i64 _ _ (R) rfl rfl rfl rfl (by rw [hz2]; omega) (by unfold maxLen; omega) ?_))
    intro w1 hb1 ho1
    have hch := H.out.only ho1 (fun _ _ => id)
    have c5 := hch.blk.cell 5 _ rfl
    have HB := Lib.hid hb1
    have HC := Lib.hid hch
    have HO := Lib.hid ho1
    clear hb1 hch ho1
    go_wp2_with (first
      | (go_at_call 16; (with_reducible refine (peek_any HC.out _).mono ?_); rintro e w2 ⟨v, rfl, hp⟩; obtain ⟨sp, rfl, hsp⟩ := hp.own.shape; rw [Int.toNat_natCast, List.take_length] at hsp ⊢; have HP := Lib.hid hp; have HSP := Lib.hid hsp; clear hp hsp)
      | (with_reducible refine wpList_copy_blk rfl (.tmp 20) (.tmp 26) 33 33 rfl 5 Try.underlying33 (by kernel_rfl) _ _ _ _ _ _ rfl rfl w.heap.size 0 _ 5 (HB.out.only HP.out.only id) (bytes L) (by rw [bytes_length]; omega) (fun h0 => ⟨rfl, own_src HSP.out h0⟩) (by rw [bytes_length, List.length_replicate]; omega) (bytes_one _) ?_))
    intro w3 hb3 ho3
    rw [map_replicate_zero, bytes_splice] at hb3
    have hch2 := (HC.out.only HP.out.only (fun _ _ => id)).only ho3 (fun x hx => by have := H.out.lt x hx; omega)
    have d3 := hch2.blk.cell 3 _ rfl
    have d4 := hch2.blk.cell 4 _ rfl
    have f3 := hch2.blk.free 3
    have f4 := hch2.blk.free 4
    have HB3 := Lib.hid hb3
    have HC3 := Lib.hid hch2
    have HO3 := Lib.hid ho3
    clear hb3 hch2 ho3
    go_wp2
    first | go_end0 | refine bodyPost_ret (results_none rfl _ _ _) rfl ?_
    have hO : Only (fun k => k = p) w w3 := (((HO.out.trans HP.out.only (fun _ _ h => h)).mono (fun _ _ hf => hf.elim)).trans HO3.out (fun i hi h => by omega))
    exact ⟨rfl, grow_fin H.out hO HB3.out HC3.out (by omega) (by omega) (by omega) (by omega)⟩
  · go_enter Try.func23, Try.ntmps23
    go_wp2_with (first
      | (at_make; refine wpList_make_blk _ rfl _ _ 33 rfl 5 i5 (.int .u8 0) Try.underlying33 hi hz0 hz1 rfl .i64 .i64 _ _ (2 * size) rfl rfl (by omega) (by omega) (by rw [hz2]; omega) (by unfold maxLen; omega) ?_))
    intro w1 hb1 ho1
    have hch := H.out.only ho1 (fun _ _ => id)
    have c5 := hch.blk.cell 5 _ rfl
    have HB := Lib.hid hb1
    have HC := Lib.hid hch
    have HO := Lib.hid ho1
    clear hb1 hch ho1
    go_wp2_with (first
      | (go_at_call 16; (with_reducible refine (peek_any HC.out _).mono ?_); rintro e w2 ⟨v, rfl, hp⟩; obtain ⟨sp, rfl, hsp⟩ := hp.own.shape; rw [Int.toNat_natCast, List.take_length] at hsp ⊢; have HP := Lib.hid hp; have HSP := Lib.hid hsp; clear hp hsp)
      | (with_reducible refine wpList_copy_blk rfl (.tmp 20) (.tmp 26) 33 33 rfl 5 Try.underlying33 (by kernel_rfl) _ _ _ _ _ _ rfl rfl w.heap.size 0 _ 5 (HB.out.only HP.out.only id) (bytes L) (by rw [bytes_length]; omega) (fun h0 => ⟨rfl, own_src HSP.out h0⟩) (by rw [bytes_length, List.length_replicate]; omega) (bytes_one _) ?_))
    intro w3 hb3 ho3
    rw [map_replicate_zero, bytes_splice] at hb3
    have hch2 := (HC.out.only HP.out.only (fun _ _ => id)).only ho3 (fun x hx => by have := H.out.lt x hx; omega)
    have d3 := hch2.blk.cell 3 _ rfl
    have d4 := hch2.blk.cell 4 _ rfl
    have f3 := hch2.blk.free 3
    have f4 := hch2.blk.free 4
    have HB3 := Lib.hid hb3
    have HC3 := Lib.hid hch2
    have HO3 := Lib.hid ho3
    clear hb3 hch2 ho3
    go_wp2
    first | go_end0 | refine bodyPost_ret (results_none rfl _ _ _) rfl ?_
    have hO : Only (fun k => k = p) w w3 := (((HO.out.trans HP.out.only (fun _ _ h => h)).mono (fun _ _ hf => hf.elim)).trans HO3.out (fun i hi h => by omega))
    exact ⟨rfl, grow_fin H.out hO HB3.out HC3.out (by omega) (by omega) (by omega) (by omega)⟩
end
end Go.Proofs.Ytpkaaadnolmidaa
