/- span, moment, Add; New; end. -/
import Derived.Test.YtmpcffkandmacaaBase
import Derived.OwnWalk
import Derived.Handy
namespace Go.Proofs.Ytmpcffkandmacaa
open Go.RowKit
set_option linter.unusedVariables false
set_option linter.unusedSimpArgs false

theorem span_ok (n : Int) (w : World) (h1 : 1 ≤ n) (h2 : n ≤ 1000000) : Calls Try.prog 22 #[.int .i64 n] w fun e w' => e = .returned (.bool true) ∧ w = w' := by
  go_enter Try.func22, Try.ntmps22
  go_wp2
  go_ret
  exact ⟨rfl, rfl⟩
theorem span_bad (n : Int) (w : World) (h : ¬ (1 ≤ n ∧ n ≤ 1000000)) : Calls Try.prog 22 #[.int .i64 n] w fun e w' => e = .returned (.bool false) ∧ w = w' := by
  rcases (show n < 1 ∨ (1 ≤ n ∧ 1000000 < n) by omega) with h1 | ⟨h1, h2⟩
  · have f1 : decide (1 ≤ n) = false := decide_eq_false (by omega)
    clear h
    go_enter Try.func22, Try.ntmps22
    go_wp2
    go_ret
    exact ⟨rfl, rfl⟩
  · have f2 : decide (n ≤ 1000000) = false := decide_eq_false (by omega)
    clear h
    go_enter Try.func22, Try.ntmps22
    go_wp2
    go_ret
    exact ⟨rfl, rfl⟩

theorem tmoment_ok (t : Int) (w : World) (h1 : 0 ≤ t) (h2 : t ≤ 4611686018427387904) : Calls Try.prog 51 #[.int .i64 t] w fun e w' => e = .returned (.bool true) ∧ w = w' := by
  go_enter Try.func51, Try.ntmps51
  go_wp2
  go_ret
  exact ⟨rfl, rfl⟩
theorem tmoment_bad (t : Int) (w : World) (h : t < 0 ∨ 4611686018427387904 < t) : Calls Try.prog 51 #[.int .i64 t] w fun e w' => e = .returned (.bool false) ∧ w = w' := by
  rcases (show t < 0 ∨ (0 ≤ t ∧ 4611686018427387904 < t) by omega) with h1 | ⟨h1, h2⟩
  · have f1 : decide (0 ≤ t) = false := decide_eq_false (by omega)
    clear h
    go_enter Try.func51, Try.ntmps51
    go_wp2
    go_ret
    exact ⟨rfl, rfl⟩
  · have f2 : decide (t ≤ 4611686018427387904) = false := decide_eq_false (by omega)
    clear h
    go_enter Try.func51, Try.ntmps51
    go_wp2
    go_ret
    exact ⟨rfl, rfl⟩
theorem tlater_any (t d : Nat) (w : World) (h1 : t ≤ 4611686018427387904) (h2 : d ≤ 1000000) : Calls Try.prog 52 #[.int .i64 t, .int .i64 d] w fun e w' => e = .returned (.int .i64 (later t d : Nat)) ∧ w = w' := by
  by_cases h : t + d ≤ 4611686018427387904
  · have e : later t d = t + d := if_pos h
    have f1 : decide (4611686018427387904 - (t : Int) < (d : Int)) = false := decide_eq_false (by omega)
    rw [e]
    clear e
    go_enter Try.func52, Try.ntmps52
    go_wp2
    go_ret
    exact ⟨ret_int (by omega), rfl⟩
  · have e : later t d = 4611686018427387904 := if_neg h
    have f1 : decide (4611686018427387904 - (t : Int) < (d : Int)) = true := decide_eq_true (by omega)
    rw [e]
    clear e
    go_enter Try.func52, Try.ntmps52
    go_wp2
    go_ret
    exact ⟨ret_int (by omega), rfl⟩
theorem tadd_ok (t d : Nat) (w : World) (h1 : t ≤ 4611686018427387904) (h2 : d ≤ 1000000) : Calls Try.prog 28 #[.int .i64 t, .int .i64 d] w fun e w' => e = .returned (.tuple #[.int .i64 (later t d : Nat), .int .i64 0]) ∧ w = w' := by
  obtain ⟨l, hl⟩ : ∃ l, l = later t d := ⟨_, rfl⟩
  have h := tlater_any t d w h1 h2
  rw [← hl] at h ⊢
  have H := Lib.hid h
  clear h hl
  go_enter Try.func28, Try.ntmps28
  go_wp2_with (first
    | (go_at_call 51; (with_reducible refine (tmoment_ok t _ (by omega) (by omega)).mono ?_); rintro e w' ⟨rfl, rfl⟩)
    | (go_at_call 52; (refine H.out.mono ?_); rintro e w' ⟨rfl, rfl⟩))
  go_ret2
  exact ⟨rfl, rfl⟩
theorem tadd_bad (t : Int) (w : World) (h : t < 0 ∨ 4611686018427387904 < t) : Calls Try.prog 28 #[.int .i64 t, .int .i64 0] w fun e w' => e = .returned (.tuple #[.int .i64 0, .int .i64 1]) ∧ w = w' := by
  have H := Lib.hid h
  clear h
  go_enter Try.func28, Try.ntmps28
  go_wp2_with (go_at_call 51; (with_reducible refine (tmoment_bad t _ H.out).mono ?_); rintro e w' ⟨rfl, rfl⟩)
  go_ret2
  exact ⟨rfl, rfl⟩
theorem moment_ok (t : Int) (w : World) (h0 : 0 ≤ t) (h1 : t ≤ 4611686018427387904) : Calls Try.prog 23 #[.int .i64 t] w fun e w' => e = .returned (.int .i64 0) ∧ w = w' := by
  obtain ⟨n, rfl⟩ : ∃ n : Nat, t = n := ⟨t.toNat, by omega⟩
  have h : n ≤ 4611686018427387904 := by omega
  go_enter Try.func23, Try.ntmps23
  go_wp2_with (go_at_call 28; (refine (tadd_ok n 0 _ h (by omega)).mono ?_); rintro e w' ⟨rfl, rfl⟩)
  go_ret
  exact ⟨rfl, rfl⟩
theorem moment_bad (t : Int) (w : World) (h : t < 0 ∨ 4611686018427387904 < t) : Calls Try.prog 23 #[.int .i64 t] w fun e w' => e = .returned (.int .i64 1) ∧ w = w' := by
  have H := Lib.hid h
  clear h
  go_enter Try.func23, Try.ntmps23
  go_wp2_with (go_at_call 28; (refine (tadd_bad t _ H.out).mono ?_); rintro e w' ⟨rfl, rfl⟩)
  go_ret
  exact ⟨rfl, rfl⟩

/-- What a pool may be. -/
structure OkN (P : Pp) : Prop where
  c : 1 ≤ P.cap ∧ P.cap ≤ 64
  d : P.pend ≤ 64
  i : 1 ≤ P.idle ∧ P.idle ≤ 1000000
  f : 1 ≤ P.life ∧ P.life ≤ 1000000
def newP (a b c d : Nat) : Pp := ⟨a, b, c, d, 0, 0, [], []⟩
theorem zero63 : ∀ w : World, (zeroValue 63).run Try.prog w = .ok (.agg #[.int .i64 0, .int .i64 0, .int .i64 0, .int .i64 0, .int .i64 0, .int .i64 0, .slice none 0 0, .slice none 0 0]) w := fun w => by kernel_rfl
def NewP (w w' : World) (p : Nat) (P : Pp) : Prop := Pw w' w.heap.size p P [] (.slice none 0 0) (.slice none 0 0) ∧ Only (fun _ => False) w w'
set_option maxRecDepth 100000 in
theorem new_ok (a b c d : Nat) (h : OkN (newP a b c d)) (w : World) : Calls Try.prog 8 #[.int .i64 a, .int .i64 b, .int .i64 c, .int .i64 d] w fun e w' => ∃ p, e = .returned (.tuple #[ptr p, .int .i64 0]) ∧ NewP w w' p (newP a b c d) := by
  obtain ⟨⟨h1, h2⟩, h3, ⟨h4, h5⟩, ⟨h6, h7⟩⟩ := h
  simp only [newP] at h1 h2 h3 h4 h5 h6 h7
  have z63 := zero63
  go_enter Try.func8, Try.ntmps8
  go_wp2_with (go_at_call 22; (with_reducible refine (span_ok _ _ (by omega) (by omega)).mono ?_); rintro e w' ⟨rfl, rfl⟩)
  go_ret2
  refine ⟨w.heap.size, rfl, ⟨Blk.new w (ppC (newP a b c d) (.slice none 0 0) (.slice none 0 0)) 63, World.ownsRow_nil _ _ _ _, WRow.nil _ _, Nat.le_refl _, rfl, fun i j x y hi => (by simp at hi), fun x hx => by cases hx⟩, (Only.refl _ _).alloc _⟩
theorem new_bad (a b c d : Int) (h : ¬ (1 ≤ a ∧ a ≤ 64 ∧ 0 ≤ b ∧ b ≤ 64 ∧ (1 ≤ c ∧ c ≤ 1000000) ∧ (1 ≤ d ∧ d ≤ 1000000))) (w : World) : Calls Try.prog 8 #[.int .i64 a, .int .i64 b, .int .i64 c, .int .i64 d] w fun e w' => e = .returned (.tuple #[.pointer none, .int .i64 1]) ∧ w = w' := by
  have H := Lib.hid h
  clear h
  have fin : ∀ (x : Bool) (n : Int) (w : World), x = decide (1 ≤ n ∧ n ≤ 1000000) → Calls Try.prog 22 #[.int .i64 n] w fun e w' => e = .returned (.bool x) ∧ w = w' := fun x n w hx => by
    by_cases hn : 1 ≤ n ∧ n ≤ 1000000
    · rw [hx, decide_eq_true hn]; exact span_ok n w hn.1 hn.2
    · rw [hx, decide_eq_false hn]; exact span_bad n w hn
  have FIN := Lib.hid fin
  clear fin
  obtain ⟨xc, hxc⟩ : ∃ xc, xc = decide (1 ≤ c ∧ c ≤ 1000000) := ⟨_, rfl⟩
  obtain ⟨xd, hxd⟩ : ∃ xd, xd = decide (1 ≤ d ∧ d ≤ 1000000) := ⟨_, rfl⟩
  have HXC := Lib.hid hxc
  have HXD := Lib.hid hxd
  have hcase : a < 1 ∨ (1 ≤ a ∧ 64 < a) ∨ (1 ≤ a ∧ a ≤ 64 ∧ b < 0) ∨ (1 ≤ a ∧ a ≤ 64 ∧ 0 ≤ b ∧ 64 < b) ∨ (1 ≤ a ∧ a ≤ 64 ∧ 0 ≤ b ∧ b ≤ 64 ∧ xc = false) ∨ (1 ≤ a ∧ a ≤ 64 ∧ 0 ≤ b ∧ b ≤ 64 ∧ xc = true ∧ xd = false) := by
    have hh := H.out
    cases xc with
    | false => simp only [reduceCtorEq, false_and, and_false, or_false, and_true]; omega
    | true =>
      have := of_decide_eq_true hxc.symm
      cases xd with
      | false => simp only [reduceCtorEq, false_and, and_false, or_false, false_or, and_true, true_and]; omega
      | true =>
        have := of_decide_eq_true hxd.symm
        simp only [reduceCtorEq, false_and, and_false, or_false, false_or, and_true, true_and]; omega
  clear hxc hxd
  rcases hcase with h1 | ⟨h1, h2⟩ | ⟨h1, h2, h3⟩ | ⟨h1, h2, h3, h4⟩ | ⟨h1, h2, h3, h4, rfl⟩ | ⟨h1, h2, h3, h4, rfl, rfl⟩
  all_goals
    go_enter Try.func8, Try.ntmps8
    go_wp2_with (first
      | (go_at_call 22; (with_reducible refine (FIN.out _ _ _ HXC.out).mono ?_); rintro e w' ⟨rfl, rfl⟩)
      | (go_at_call 22; (with_reducible refine (FIN.out _ _ _ HXD.out).mono ?_); rintro e w' ⟨rfl, rfl⟩))
    go_ret2
    exact ⟨rfl, rfl⟩

section
variable {w : World} {lo p : Nat} {P : Pp} {X : List (Nat × Cn)} {vl vw : Value}
set_option maxRecDepth 100000 in
/-- When a connection is not good any more. -/
theorem end_any (h : Pw w lo p P X vl vw) (hn : OkN P) {i b : Nat} {c : Cn} (hi : X[i]? = some (b, c)) (h1 : c.since ≤ 4611686018427387904) (h2 : c.born ≤ 4611686018427387904) :
    Calls Try.prog 35 #[ptr p, ptr b] w fun e w' => e = .returned (.int .i64 (endC P c)) ∧ Drawn w w' := by
  obtain ⟨_, _, hb, _⟩ := h.cnAt_ hi
  have c3 := hb.cell 3 _ rfl
  have c4 := hb.cell 4 _ rfl
  have hbl := hb.lt
  have d2 := h.blk.cell 2 _ rfl
  have d3 := h.blk.cell 3 _ rfl
  have hpl := h.blk.lt
  have i2 := hn.i.2
  have f2 := hn.f.2
  clear h hb hi hn
  unfold endC
  have a1 : ∀ w, Calls Try.prog 28 #[.int .i64 c.since, .int .i64 P.idle] w fun e w' => e = .returned (.tuple #[.int .i64 (later c.since P.idle : Nat), .int .i64 0]) ∧ w = w' := fun w => tadd_ok _ _ w h1 i2
  have a2 : ∀ w, Calls Try.prog 28 #[.int .i64 c.born, .int .i64 P.life] w fun e w' => e = .returned (.tuple #[.int .i64 (later c.born P.life : Nat), .int .i64 0]) ∧ w = w' := fun w => tadd_ok _ _ w h2 f2
  generalize later c.since P.idle = x at a1 ⊢
  generalize later c.born P.life = y at a2 ⊢
  generalize c.since = cs at c3 a1
  generalize c.born = cb at c4 a2
  generalize P.idle = pi at d2 a1
  generalize P.life = pf at d3 a2
  have A1 := Lib.hid a1
  have A2 := Lib.hid a2
  clear a1 a2 h1 h2 i2 f2
  obtain ⟨m, hm⟩ : ∃ m, m = min x y := ⟨_, rfl⟩
  rw [← hm]
  have HM := Lib.hid hm
  clear hm
  go_enter Try.func35, Try.ntmps35
  go_wp2
  go_quiet ((go_at_call 28; refine (A1.out _).mono ?_; rintro e w' ⟨rfl, rfl⟩; exact ⟨rfl, _, rfl⟩))
  go_wp2
  go_quiet ((go_at_call 28; refine (A2.out _).mono ?_; rintro e w' ⟨rfl, rfl⟩; exact ⟨rfl, _, rfl⟩))
  go_wp2
  all_goals
    go_ret
    exact ⟨ret_int (by have := HM.out; omega), Drawn.of _ _⟩
end
end Go.Proofs.Ytmpcffkandmacaa
