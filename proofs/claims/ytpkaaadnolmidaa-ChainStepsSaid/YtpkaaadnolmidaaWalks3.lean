/- chain.Drop, Take. -/
import Derived.Test.YtpkaaadnolmidaaWalks2
namespace Go.Proofs.Ytpkaaadnolmidaa
open Go.RowKit
set_option linter.unusedVariables false

def DropPost (w w' : World) (p : Nat) (g : Option Nat) (r : List Int) (bound high low : Nat) (L : List Int) (stop : Bool) : Prop :=
  ∃ fr, Ch w' p g r fr bound high low L stop ∧ Only (fun k => k = p) w w'

/-- A chain of which the place, how many there are and whether it is stopped have turned. -/
theorem Ch.turn {w w' : World} {p : Nat} {g : Option Nat} {r : List Int} {fr fr' bound high low : Nat} {L L' : List Int} {stop stop' : Bool} (h : Ch w p g r fr bound high low L stop)
    (ho : Only (fun k => k = p) w w') (hb : Blk w' p [.int .i64 bound, .int .i64 high, .int .i64 low, ringVal g r, .int .i64 fr', .int .i64 L'.length, .bool stop'] 47)
    (hn : g = none → L' = []) (hf : g ≠ none → fr' < r.length) (hl : L'.length ≤ r.length) (hat : ∀ i, i < L'.length → r.getD ((fr' + i) % r.length) 0 = L'.getD i 0) : Ch w' p g r fr' bound high low L' stop' :=
  ⟨hb, fun e => ⟨(h.nil e).1, hn e⟩, fun k hk => ⟨(h.ring k hk).1.only ho (h.ring k hk).2.1, (h.ring k hk).2.1, hf (by rw [hk]; simp)⟩, hl, h.max, h.most, h.marks, hat⟩

theorem drop_fr {w : World} {p : Nat} {g : Option Nat} {r : List Int} {fr bound high low : Nat} {L : List Int} {stop : Bool} (h : Ch w p g r fr bound high low L stop) (e : g ≠ none) : fr < r.length := by
  cases g with
  | none => exact absurd rfl e
  | some k => exact (h.ring k rfl).2.2

section
variable {w : World} {p : Nat} {g : Option Nat} {r : List Int} {fr bound high low : Nat} {L : List Int} {stop : Bool}

/-- Nothing is dropped. -/
theorem drop_zero (h : Ch w p g r fr bound high low L stop) (n : Int) (hn : n ≤ 0 ∨ L.length = 0) :
    Calls Try.prog 15 #[.pointer (some ⟨p, 0, none⟩), .int .i64 n] w fun e w' => e = .returned (.int .i64 0) ∧ DropPost w w' p g r bound high low L (if L.length ≤ low then false else stop) := by
  have H := Lib.hid h
  have c2 := h.blk.cell 2 _ rfl
  have c5 := h.blk.cell 5 _ rfl
  have c6 := h.blk.cell 6 _ rfl
  have f6 := h.blk.free 6
  have h1 := h.fit
  have h2 := h.max
  have h3 := h.most
  have h4 := h.marks
  clear h
  have hn' : n ≤ 0 ∨ (0 < n ∧ L.length = 0) := by omega
  by_cases hlow : L.length ≤ low
  · rw [if_pos hlow]
    rcases hn' with hn0 | ⟨hn0, hl0⟩
    · clear hn
      go_enter Try.func15, Try.ntmps15
      go_wp2_with (first
        | (go_at_call 20; (with_reducible refine (len_any H.out).mono ?_); rintro e w' ⟨rfl, rfl⟩))
      go_quiet (fail)
      go_wp2
      go_ret
      exact ⟨rfl, fr, H.out.turn (((Only.refl (fun k => k = p) w).drewN nq).setCell (p := ⟨p, 6, none⟩) (fun _ => rfl) _) ((H.out.blk.drewN nq).set 6 _) (fun e => (H.out.nil e).2) (fun e => drop_fr H.out e) h1 H.out.at_, ((Only.refl (fun k => k = p) w).drewN nq).setCell (p := ⟨p, 6, none⟩) (fun _ => rfl) _⟩
    · clear hn
      have HL := Lib.hid hl0
      clear hl0
      go_enter Try.func15, Try.ntmps15
      go_wp2_with (first
        | (go_at_call 20; (with_reducible refine (len_any H.out).mono ?_); rintro e w' ⟨rfl, rfl⟩; rw [HL.out]))
      go_quiet (fail)
      go_wp2
      go_ret
      exact ⟨rfl, fr, H.out.turn (((Only.refl (fun k => k = p) w).drewN nq).setCell (p := ⟨p, 6, none⟩) (fun _ => rfl) _) ((H.out.blk.drewN nq).set 6 _) (fun e => (H.out.nil e).2) (fun e => drop_fr H.out e) h1 H.out.at_, ((Only.refl (fun k => k = p) w).drewN nq).setCell (p := ⟨p, 6, none⟩) (fun _ => rfl) _⟩
  · rw [if_neg hlow]
    rcases hn' with hn0 | ⟨hn0, hl0⟩
    · clear hn
      go_enter Try.func15, Try.ntmps15
      go_wp2_with (first
        | (go_at_call 20; (with_reducible refine (len_any H.out).mono ?_); rintro e w' ⟨rfl, rfl⟩))
      go_quiet (fail)
      go_wp2
      go_ret
      exact ⟨rfl, fr, H.out.drawn (Drawn.of w nq), (Only.refl (fun k => k = p) w).drewN nq⟩
    · omega

/-- k bytes are dropped. -/
theorem drop_some (h : Ch w p g r fr bound high low L stop) (n : Int) (k : Nat) (hk : (k : Int) = min n L.length) (hk1 : 1 ≤ k) :
    Calls Try.prog 15 #[.pointer (some ⟨p, 0, none⟩), .int .i64 n] w fun e w' => e = .returned (.int .i64 k) ∧ DropPost w w' p g r bound high low (L.drop k) (if L.length - k ≤ low then false else stop) := by
  have c2 := h.blk.cell 2 _ rfl
  have c3 := h.blk.cell 3 _ rfl
  have c4 := h.blk.cell 4 _ rfl
  have c5 := h.blk.cell 5 _ rfl
  have c6 := h.blk.cell 6 _ rfl
  have f4 := h.blk.free 4
  have f5 := h.blk.free 5
  have f6 := h.blk.free 6
  have h1 := h.fit
  have h2 := h.max
  have h3 := h.most
  have h4 := h.marks
  have hkL : k ≤ L.length := by omega
  obtain ⟨gk, rfl⟩ : ∃ gk, g = some gk := by
    cases g with
    | none => have := (h.nil rfl).2; subst this; simp at hkL; omega
    | some gk => exact ⟨gk, rfl⟩
  have hfr := (h.ring gk rfl).2.2
  have hdp := drop_pure (k := k) hfr hkL h1 h.at_
  have H := Lib.hid h
  have HD := Lib.hid hdp
  clear h hdp
  simp only [ringVal] at c3
  have e1 : IntKind.i64.wrap ((fr : Int) + (k : Int)) = (fr : Int) + k := IntWalk.i64_in _ (by omega)
  obtain ⟨q, hq⟩ : ∃ q, q = (fr + k) % r.length := ⟨_, rfl⟩
  have hq1 : q < r.length := by rw [hq]; exact Nat.mod_lt _ (by omega)
  have e2 : ((fr : Int) + (k : Int)).tmod (r.length : Int) = (q : Int) := by
    rw [hq, Int.natCast_emod, Int.natCast_add, Int.tmod_eq_emod_of_nonneg (by omega)]
  have HQ := Lib.hid hq
  clear hq
  have hR : ¬ (r.length : Int) = 0 := by omega
  have hR1 : ¬ r = [] := fun e => by rw [e] at hfr; simp at hfr
  have hcases : (n ≤ L.length ∧ n = k) ∨ ((L.length : Int) < n ∧ L.length = k) := by omega
  clear hk
  have hln : ((L.drop k).length : Int) = (L.length : Int) - k := by rw [List.length_drop]; omega
  have HLN := Lib.hid hln
  have HLE2 := Lib.hid (show (L.drop k).length ≤ r.length by rw [List.length_drop]; omega)
  have hdq : ∀ i, i < (L.drop k).length → r.getD ((q + i) % r.length) 0 = (L.drop k).getD i 0 := by
    rw [HQ.out]; exact HD.out
  have HDQ := Lib.hid hdq
  clear hln hdq
  by_cases hlow : L.length - k ≤ low
  · rw [if_pos hlow]
    rcases hcases with ⟨hn, rfl⟩ | ⟨hn, hLk⟩
    · go_enter Try.func15, Try.ntmps15
      go_wp2_with (first
        | (go_at_call 20; (with_reducible refine (len_any H.out).mono ?_); rintro e w' ⟨rfl, rfl⟩))
      go_still_tail 15, (by kernel_rfl)
      go_wp2
      go_quiet (fail)
      go_wp2
      go_ret
      exact ⟨rfl, q, H.out.turn (((((Only.refl (fun k => k = p) w).setCell (p := ⟨p, 4, none⟩) (fun _ => rfl) _).setCell (p := ⟨p, 5, none⟩) (fun _ => rfl) _).drewN _).setCell (p := ⟨p, 6, none⟩) (fun _ => rfl) _) (by rw [HLN.out]; exact ((((H.out.blk.set 4 _).set 5 _).drewN _).set 6 _)) (fun e => by cases e) (fun _ => hq1) HLE2.out HDQ.out, (((((Only.refl (fun k => k = p) w).setCell (p := ⟨p, 4, none⟩) (fun _ => rfl) _).setCell (p := ⟨p, 5, none⟩) (fun _ => rfl) _).drewN _).setCell (p := ⟨p, 6, none⟩) (fun _ => rfl) _)⟩
    · have HLK := Lib.hid hLk
      clear hLk
      go_enter Try.func15, Try.ntmps15
      go_wp2_with (first
        | (go_at_call 20; (with_reducible refine (len_any H.out).mono ?_); rintro e w' ⟨rfl, rfl⟩; rw [HLK.out]))
      go_still_tail 15, (by kernel_rfl)
      go_wp2
      go_quiet (fail)
      go_wp2
      go_ret
      exact ⟨rfl, q, H.out.turn (((((Only.refl (fun k => k = p) w).setCell (p := ⟨p, 4, none⟩) (fun _ => rfl) _).setCell (p := ⟨p, 5, none⟩) (fun _ => rfl) _).drewN _).setCell (p := ⟨p, 6, none⟩) (fun _ => rfl) _) (by rw [HLN.out]; exact ((((H.out.blk.set 4 _).set 5 _).drewN _).set 6 _)) (fun e => by cases e) (fun _ => hq1) HLE2.out HDQ.out, (((((Only.refl (fun k => k = p) w).setCell (p := ⟨p, 4, none⟩) (fun _ => rfl) _).setCell (p := ⟨p, 5, none⟩) (fun _ => rfl) _).drewN _).setCell (p := ⟨p, 6, none⟩) (fun _ => rfl) _)⟩
  · rw [if_neg hlow]
    rcases hcases with ⟨hn, rfl⟩ | ⟨hn, hLk⟩
    · go_enter Try.func15, Try.ntmps15
      go_wp2_with (first
        | (go_at_call 20; (with_reducible refine (len_any H.out).mono ?_); rintro e w' ⟨rfl, rfl⟩))
      go_still_tail 15, (by kernel_rfl)
      go_wp2
      go_quiet (fail)
      go_wp2
      go_ret
      exact ⟨rfl, q, H.out.turn ((((Only.refl (fun k => k = p) w).setCell (p := ⟨p, 4, none⟩) (fun _ => rfl) _).setCell (p := ⟨p, 5, none⟩) (fun _ => rfl) _).drew.drewN nq) (by rw [HLN.out]; exact (((H.out.blk.set 4 _).set 5 _).drew.drewN nq)) (fun e => by cases e) (fun _ => hq1) HLE2.out HDQ.out, ((((Only.refl (fun k => k = p) w).setCell (p := ⟨p, 4, none⟩) (fun _ => rfl) _).setCell (p := ⟨p, 5, none⟩) (fun _ => rfl) _).drew.drewN nq)⟩
    · omega
end
end Go.Proofs.Ytpkaaadnolmidaa
