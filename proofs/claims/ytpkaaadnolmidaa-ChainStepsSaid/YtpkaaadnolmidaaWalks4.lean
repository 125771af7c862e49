/- chain.Peek, Drop and Take, at whatever number; Find. -/
import Derived.Test.YtpkaaadnolmidaaWalks3
namespace Go.Proofs.Ytpkaaadnolmidaa
open Go.RowKit
set_option linter.unusedVariables false

theorem OwnBytes.only {S : Nat → Prop} {w w' : World} {lo : Nat} {v : Value} {L : List Int} (h : OwnBytes w lo v L) (ho : Only S w w') (hd : ∀ k, S k → k < lo) : OwnBytes w' lo v L := by
  rcases h with h | ⟨g, h1, h2, h3, h4⟩
  · exact .inl h
  · exact .inr ⟨g, h1, h2, h3.only ho (fun hs => by have := hd g hs; omega), h4⟩

/-- Is a chain stopped, behind a drop? -/
def dropStop (low : Nat) (L : List Int) (stop : Bool) : Bool := if L.length ≤ low then false else stop

def TakePost (w w' : World) (v : Value) (p : Nat) (g : Option Nat) (r : List Int) (bound high low : Nat) (L M : List Int) (stop : Bool) : Prop :=
  OwnBytes w' w.heap.size v M ∧ ∃ fr, Ch w' p g r fr bound high low L stop ∧ Only (fun k => k = p) w w'

section
variable {w : World} {p : Nat} {g : Option Nat} {r : List Int} {fr bound high low : Nat} {L : List Int} {stop : Bool}

theorem peek_any (h : Ch w p g r fr bound high low L stop) (n : Int) :
    Calls Try.prog 16 #[.pointer (some ⟨p, 0, none⟩), .int .i64 n] w fun e w' => ∃ v, e = .returned v ∧ PeekPost w w' v (L.take n.toNat) := by
  by_cases hz : n < 1 ∨ L.length = 0
  · refine (peek_none h n hz).mono ?_
    rintro e w' ⟨rfl, rfl⟩
    refine ⟨_, rfl, .inl ⟨rfl, ?_⟩, Only.refl _ _⟩
    rcases hz with hz | hz
    · rw [show n.toNat = 0 by omega, List.take_zero]
    · rw [List.eq_nil_of_length_eq_zero hz, List.take_nil]
  · have := peek_some h n (min n.toNat L.length) (by omega) (by omega)
    rw [show L.take (min n.toNat L.length) = L.take n.toNat by rw [List.take_eq_take_iff]; omega] at this
    exact this

theorem drop_any (h : Ch w p g r fr bound high low L stop) (n : Int) :
    Calls Try.prog 15 #[.pointer (some ⟨p, 0, none⟩), .int .i64 n] w fun e w' => e = .returned (.int .i64 ((L.take n.toNat).length : Nat)) ∧ DropPost w w' p g r bound high low (L.drop n.toNat) (dropStop low (L.drop n.toNat) stop) := by
  by_cases hz : n ≤ 0 ∨ L.length = 0
  · have := drop_zero h n hz
    have e1 : (L.take n.toNat).length = 0 := by rw [List.length_take]; omega
    have e2 : L.drop n.toNat = L := by
      rcases hz with hz | hz
      · rw [show n.toNat = 0 by omega, List.drop_zero]
      · rw [List.eq_nil_of_length_eq_zero hz, List.drop_nil]
    rw [e1, e2]
    exact this
  · have := drop_some h n (min n.toNat L.length) (by omega) (by omega)
    have e1 : (L.take n.toNat).length = min n.toNat L.length := List.length_take
    have e2 : L.drop n.toNat = L.drop (min n.toNat L.length) := by
      rcases Nat.le_total n.toNat L.length with hl | hl
      · rw [Nat.min_eq_left hl]
      · rw [Nat.min_eq_right hl, List.drop_of_length_le hl, List.drop_length]
    rw [e1, e2]
    unfold dropStop
    rw [List.length_drop]
    exact this
theorem drop_nil (n : Int) : Calls Try.prog 15 #[.pointer none, .int .i64 n] w fun e w' => e = .returned (.int .i64 0) ∧ w = w' := by
  by_cases hl : n ≤ 0
  all_goals
    go_enter Try.func15, Try.ntmps15
    go_wp2_with (first
      | (go_at_call 20; (with_reducible refine (len_nil w).mono ?_); rintro e w' ⟨rfl, rfl⟩))
    all_goals
      go_ret
      exact ⟨rfl, rfl⟩

theorem take_any (h : Ch w p g r fr bound high low L stop) (n : Int) :
    Calls Try.prog 13 #[.pointer (some ⟨p, 0, none⟩), .int .i64 n] w fun e w' => ∃ v, e = .returned v ∧ TakePost w w' v p g r bound high low (L.drop n.toNat) (L.take n.toNat) (dropStop low (L.drop n.toNat) stop) := by
  have H := Lib.hid h
  clear h
  go_enter Try.func13, Try.ntmps13
  go_wp2_with (first
    | (go_at_call 16; (with_reducible refine (peek_any H.out n).mono ?_); rintro e w1 ⟨v, rfl, hp⟩)
    | (go_at_call 15; (with_reducible refine (drop_any (H.out.only hp.only (fun _ _ => id)) n).mono ?_); rintro e w2 ⟨rfl, hd⟩))
  go_ret
  obtain ⟨fr', hc, ho⟩ := hd
  have hlt := H.out.lt p (.inl rfl)
  exact ⟨_, rfl, hp.own.only ho (fun k hk => by omega), fr', hc, (hp.only.mono (fun _ _ hf => hf.elim)).trans ho (fun _ _ h => h)⟩
theorem take_nil (n : Int) : Calls Try.prog 13 #[.pointer none, .int .i64 n] w fun e w' => e = .returned (.slice none 0 0) ∧ w = w' := by
  go_enter Try.func13, Try.ntmps13
  go_wp2_with (first
    | (go_at_call 16; (with_reducible refine (peek_nil n).mono ?_); rintro e w1 ⟨rfl, rfl⟩)
    | (go_at_call 15; (with_reducible refine (drop_nil n).mono ?_); rintro e w2 ⟨rfl, rfl⟩))
  go_ret
  exact ⟨rfl, rfl⟩

theorem find_nil (x : Int) : Calls Try.prog 18 #[.pointer none, .int .u8 x] w fun e w' => e = .returned (.int .i64 (-1)) ∧ w = w' := by
  go_enter Try.func18, Try.ntmps18
  go_wp2_with (first
    | (go_at_call 20; (with_reducible refine (len_nil w).mono ?_); rintro e w' ⟨rfl, rfl⟩))
  refine wp_loop_rounds 1 ?_
  rw [rounds_succ]
  go_wp2
  go_ret
  exact ⟨rfl, rfl⟩

set_option maxHeartbeats 800000 in
theorem find_any (h : Ch w p g r fr bound high low L stop) (x : Int) :
    Calls Try.prog 18 #[.pointer (some ⟨p, 0, none⟩), .int .u8 x] w fun e w' => e = .returned (.int .i64 (findI L x)) ∧ Drawn w w' := by
  have h1 := h.fit
  have h2 := h.max
  have h3 := h.most
  have H := Lib.hid h
  clear h
  go_enter Try.func18, Try.ntmps18
  go_wp2_with (first
    | (go_at_call 20; (with_reducible refine (len_any H.out).mono ?_); rintro e w' ⟨rfl, rfl⟩))
  go_loopw [8] (fun i wr => ∃ k : Nat, k ≤ L.length ∧ i = .int .i64 k ∧ (∀ j, j < k → L.getD j 0 ≠ x) ∧ Drawn w wr) (fun i _ => L.length - (intOf i).toNat)
  case atStart => exact ⟨0, Nat.zero_le _, rfl, fun j hj => absurd hj (Nat.not_lt_zero _), Drawn.refl _⟩
  case round =>
    obtain ⟨k, hk, rfl, hall, hdr⟩ := hrel
    have hch := H.out.drawn hdr
    have HA := Lib.hid hall
    have HD := Lib.hid hdr
    clear hall hdr
    by_cases hlt : k < L.length
    · obtain ⟨gk, hg⟩ : ∃ gk, g = some gk := by
        cases g with
        | none => have := (hch.nil rfl).2; subst this; simp at hlt
        | some gk => exact ⟨gk, rfl⟩
      have hfr := (hch.ring gk hg).2.2
      have hring := (hch.ring gk hg).1
      have c3 := hch.blk.cell 3 _ rfl
      have c4 := hch.blk.cell 4 _ rfl
      have e1 : IntKind.i64.wrap ((fr : Int) + (k : Int)) = (fr : Int) + k := IntWalk.i64_in _ (by omega)
      obtain ⟨q, hq⟩ : ∃ q, q = (fr + k) % r.length := ⟨_, rfl⟩
      have hq1 : q < r.length := by rw [hq]; exact Nat.mod_lt _ (by omega)
      have e2 : ((fr : Int) + (k : Int)).tmod (r.length : Int) = (q : Int) := by
        rw [hq, Int.natCast_emod, Int.natCast_add, Int.tmod_eq_emod_of_nonneg (by omega)]
      have hat := hch.at_ k hlt
      rw [← hq] at hat
      obtain ⟨y, hy⟩ : ∃ y, y = L.getD k 0 := ⟨_, rfl⟩
      rw [← hy] at hat
      have cq := hring.cell q _ (bytes_get r q hq1)
      rw [hat] at cq
      have HY := Lib.hid hy
      rw [hg] at c3
      simp only [ringVal] at c3
      clear hq hch hring hat hy hg
      have hR : ¬ (r.length : Int) = 0 := by omega
      have hR1 : ¬ r = [] := fun e => by rw [e] at hfr; simp at hfr
      by_cases hxy : (y == x) = true
      · have hfi : findI L x = k := findI_at hlt HA.out (by rw [← HY.out]; exact beq_iff_eq.1 hxy)
        have HF := Lib.hid hfi
        clear hfi
        go_wp2_with fail
        go_quiet (fail)
        go_wp2
        go_ret
        exact ⟨ret_int (by rw [HF.out]), HD.out.trans (Drawn.of _ _)⟩
      · have hxy1 : (y == x) = false := by simpa using hxy
        have hall2 : ∀ j, j < k + 1 → L.getD j 0 ≠ x := fun j hj => by
          rcases Nat.lt_or_ge j k with hjk | hjk
          · exact HA.out j hjk
          · rw [show j = k by omega, ← HY.out]
            exact beq_eq_false_iff_ne.1 hxy1
        have HA2 := Lib.hid hall2
        clear hxy hall2
        go_wp2_with fail
        go_quiet (fail)
        go_wp2
        go_roundw
        case rel => exact ⟨k + 1, by omega, by go_num, HA2.out, HD.out.trans (Drawn.of _ _)⟩
        case measure => simp [intOf]; omega
    · have hfi : findI L x = -1 := findI_none fun i hi => HA.out i (by omega)
      have HF := Lib.hid hfi
      clear hfi
      go_wp2
      go_ret
      exact ⟨ret_int (by rw [HF.out]), HD.out⟩
end
end Go.Proofs.Ytpkaaadnolmidaa
