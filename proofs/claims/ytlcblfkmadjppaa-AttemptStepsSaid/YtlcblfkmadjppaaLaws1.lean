/- speaks; AttemptNil. -/
import Derived.Test.YtlcblfkmadjppaaKeep
namespace Go.Proofs.Ytlcblfkmadjppaa
open Go.RowKit
set_option linter.unusedVariables false
set_option linter.unusedSimpArgs false

def spPl : Pl := ⟨1, 0, 5, 10, 100, true⟩
def spR0 : Rq := begunRq spPl 0
def spR1 : Rq := ⟨spPl, 0, 3, 2, 1, 0, [⟨1, 3⟩], false, false⟩
def spR2 : Rq := ⟨spPl, 0, 3, 2, 1, 0, [], true, false⟩
theorem sp_f1 : failI spR0 3 0 2 true = (spR1, [⟨1, 1, 1⟩], 0) := by decide
theorem sp_f2 : failI spR1 4 1 2 true = (spR2, [⟨4, 1, 502⟩], 0) := by decide

theorem zero23 : ∀ w : World, (zeroValue 23).run Try.prog w = .ok (.agg #[.int .i64 0, .int .i64 0, .int .i64 0, .int .i64 0, .int .i64 0, .bool false]) w := fun w => by kernel_rfl
theorem zero37 : ∀ w : World, (zeroValue 37).run Try.prog w = .ok (.agg #[.int .i64 0, .int .i64 0, .int .i64 0]) w := fun w => by kernel_rfl
theorem eq37a : ∀ w : World, (binOp .eql 37 (.agg #[.int .i64 1, .int .i64 0, .int .i64 0]) (.agg #[.int .i64 1, .int .i64 0, .int .i64 0])).run Try.prog w = .ok (.bool true) w := fun w => by kernel_rfl
theorem eq37b : ∀ w : World, (binOp .eql 37 (.agg #[.int .i64 1, .int .i64 1, .int .i64 1]) (.agg #[.int .i64 1, .int .i64 1, .int .i64 1])).run Try.prog w = .ok (.bool true) w := fun w => by kernel_rfl
theorem eq37c : ∀ w : World, (binOp .eql 37 (.agg #[.int .i64 4, .int .i64 1, .int .i64 502]) (.agg #[.int .i64 4, .int .i64 1, .int .i64 502])).run Try.prog w = .ok (.bool true) w := fun w => by kernel_rfl

section
variable {w0 w : World} {q : Nat} {K : Kept}
theorem sp_begin (w : World) : Calls Try.prog 9 #[.agg #[.int .i64 1, .int .i64 0, .int .i64 5, .int .i64 10, .int .i64 100, .bool true], .int .i64 0] w fun e w' =>
    ∃ q g cap C, e = .returned (.tuple #[.pointer (some ⟨q, 0, none⟩), .slice (some ⟨g, 0, none⟩) 1 cap, .int .i64 0]) ∧ 1 ≤ cap ∧ cap ≤ 9223372036854775807 ∧ Lq w w' q spR0 [(g, [.int .i64 1, .int .i64 0, .int .i64 0] ++ C, 37)] := by
  refine (begin_ok spPl ⟨by decide, by decide, by decide, by decide, by decide⟩ 0 (by decide) w).mono ?_
  rintro e w' ⟨q, v, rfl, hB⟩
  obtain ⟨g, cap, C, rfl, h1, h2, hL⟩ := lq_begun_keep (K := []) (Below.refl _ w) hB (okq_begun ⟨by decide, by decide, by decide, by decide, by decide⟩ (by decide)) (fun x hx => by cases hx)
  exact ⟨q, g, cap, C, rfl, h1, h2, hL⟩
theorem sp_fail1 (h : Lq w0 w q spR0 K) : Calls Try.prog 23 #[.pointer (some ⟨q, 0, none⟩), .int .i64 3, .int .i64 0, .int .i64 2, .bool true] w fun e w' =>
    ∃ g cap C, e = .returned (.tuple #[.slice (some ⟨g, 0, none⟩) 1 cap, .int .i64 0]) ∧ 1 ≤ cap ∧ cap ≤ 9223372036854775807 ∧ Lq w0 w' q spR1 ((g, [.int .i64 1, .int .i64 1, .int .i64 1] ++ C, 37) :: K) :=
  lq_fail_keep h 3 0 2 true spR1 [⟨1, 1, 1⟩] 0 sp_f1 (by decide)
theorem sp_fail2 (h : Lq w0 w q spR1 K) : Calls Try.prog 23 #[.pointer (some ⟨q, 0, none⟩), .int .i64 4, .int .i64 1, .int .i64 2, .bool true] w fun e w' =>
    ∃ g cap C, e = .returned (.tuple #[.slice (some ⟨g, 0, none⟩) 1 cap, .int .i64 0]) ∧ 1 ≤ cap ∧ cap ≤ 9223372036854775807 ∧ Lq w0 w' q spR2 ((g, [.int .i64 4, .int .i64 1, .int .i64 502] ++ C, 37) :: K) :=
  lq_fail_keep h 4 1 2 true spR2 [⟨4, 1, 502⟩] 0 sp_f2 (by decide)
theorem sp_over (h : Lq w0 w q spR2 K) : Calls Try.prog 12 #[.pointer (some ⟨q, 0, none⟩)] w fun e w' => e = .returned (.bool true) ∧ w = w' := lq_over h
end

set_option maxRecDepth 100000 in
theorem speaks_ok (w : World) : Calls Try.prog 10 #[] w fun e w' => e = .returned (.bool true) ∧ Below w.heap.size w w' := by
  have z23 := zero23
  have z37 := zero37
  have ea := eq37a
  have eb := eq37b
  have ec := eq37c
  go_enter Try.func10, Try.ntmps10
  go_upto_region 6 with (first
    | (go_at_call 9; (with_reducible refine (sp_begin w).mono ?_); rintro e w1 ⟨q, g1, cap1, C1, rfl, ha1, ha2, hN⟩; have HN := Lib.hid hN; clear hN)
    | (go_at_call 23; (with_reducible refine (sp_fail1 HN.out).mono ?_); rintro e w2 ⟨g2, cap2, C2, rfl, hb1, hb2, hA⟩; have HA := Lib.hid hA; clear hA)
    | (go_at_call 23; (with_reducible refine (sp_fail2 HA.out).mono ?_); rintro e w3 ⟨g3, cap3, C3, rfl, hc1, hc2, hB⟩; have HB := Lib.hid hB; clear hB))
  have k3 := HB.out.kept (List.mem_cons_self ..)
  have k2 := HB.out.kept (List.mem_cons_of_mem _ (List.mem_cons_self ..))
  have k1 := HB.out.kept (List.mem_cons_of_mem _ (List.mem_cons_of_mem _ (List.mem_cons_self ..)))
  have a0 := k1.cell 0 _ rfl
  have a1 := k1.cell 1 _ rfl
  have a2 := k1.cell 2 _ rfl
  have b0 := k2.cell 0 _ rfl
  have b1 := k2.cell 1 _ rfl
  have b2 := k2.cell 2 _ rfl
  have c0 := k3.cell 0 _ rfl
  have c1 := k3.cell 1 _ rfl
  have c2 := k3.cell 2 _ rfl
  clear k1 k2 k3
  go_wp2_with (go_at_call 12; (with_reducible refine (sp_over HB.out).mono ?_); rintro e w' ⟨rfl, rfl⟩)
  go_ret
  exact ⟨rfl, HB.out.below⟩

theorem rmoment_ok (t : Int) (w : World) (h1 : 0 ≤ t) (h2 : t ≤ 4611686018427387904) : Calls Try.prog 25 #[.int .i64 t] w fun e w' => e = .returned (.bool true) ∧ w = w' := by
  go_enter Try.func25, Try.ntmps25
  go_wp2
  go_ret
  exact ⟨rfl, rfl⟩
theorem rmoment_bad (t : Int) (w : World) (h : t < 0 ∨ 4611686018427387904 < t) : Calls Try.prog 25 #[.int .i64 t] w fun e w' => e = .returned (.bool false) ∧ w = w' := by
  rcases (show t < 0 ∨ (0 ≤ t ∧ 4611686018427387904 < t) by omega) with h1 | ⟨h1, h2⟩
  · have f1 : decide (0 ≤ t) = false := decide_eq_false (by omega)
    clear h
    go_enter Try.func25, Try.ntmps25
    go_wp2
    go_ret
    exact ⟨rfl, rfl⟩
  · have f2 : decide (t ≤ 4611686018427387904) = false := decide_eq_false (by omega)
    clear h
    go_enter Try.func25, Try.ntmps25
    go_wp2
    go_ret
    exact ⟨rfl, rfl⟩

set_option maxRecDepth 100000 in
theorem nil_walk (a0 a1 : Int) (w : World) (w0 : (Lit.int .i64 a0).wf = true) (w1 : (Lit.int .i64 a1).wf = true) :
    Calls Try.prog 8 #[.int .i64 a0, .int .i64 a1] w fun e w' => e = .returned (.bool true) ∧ Below w.heap.size w w' := by
  clear w0 w1
  by_cases hm : isMoment a0
  · obtain ⟨h0, h1⟩ := hm
    obtain ⟨n, rfl⟩ : ∃ n : Nat, a0 = n := ⟨a0.toNat, by omega⟩
    have hn : n ≤ 4611686018427387904 := by omega
    clear h0 h1
    go_enter Try.func8, Try.ntmps8
    go_wp2_with (first
      | (go_at_call 23; (with_reducible refine (fail_nil n hn a1 1 (by decide) (by decide) true _).mono ?_); rintro e w2 ⟨rfl, hO1⟩; have HO1 := Lib.hid hO1; clear hO1)
      | (go_at_call 24; (with_reducible refine (head_nil n hn a1 200 true _).mono ?_); rintro e w3 ⟨rfl, hO2⟩; have HO2 := Lib.hid hO2; clear hO2)
      | (go_at_call 22; (with_reducible refine (time_nil n hn true _).mono ?_); rintro e w' ⟨rfl, rfl⟩)
      | (go_at_call 19; (with_reducible refine (next_nil _).mono ?_); rintro e w' ⟨rfl, rfl⟩)
      | (go_at_call 25; (with_reducible refine (rmoment_ok n _ (by omega) (by omega)).mono ?_); rintro e w' ⟨rfl, rfl⟩)
      | (go_at_call 12; (with_reducible refine (over_nil _).mono ?_); rintro e w' ⟨rfl, rfl⟩)
      | (go_at_call 13; (with_reducible refine (running_nil _).mono ?_); rintro e w' ⟨rfl, rfl⟩)
      | (go_at_call 10; (with_reducible refine (speaks_ok _).mono ?_); rintro e w5 ⟨rfl, hS⟩))
    go_ret
    have hO := HO1.out.trans HO2.out (fun _ _ h => h)
    exact ⟨rfl, (hO.below (Nat.le_refl _) (fun _ h => h.elim)).trans (hS.mono hO.size)⟩
  · have hb : a0 < 0 ∨ 4611686018427387904 < a0 := by unfold isMoment at hm; omega
    have HB := Lib.hid hb
    clear hm hb
    go_enter Try.func8, Try.ntmps8
    go_wp2_with (first
      | (go_at_call 23; (with_reducible refine (fail_badm a0 a1 1 HB.out true _ _).mono ?_); rintro e w2 ⟨rfl, rfl⟩)
      | (go_at_call 24; (with_reducible refine (head_badm a0 a1 200 HB.out true _ _).mono ?_); rintro e w3 ⟨rfl, rfl⟩)
      | (go_at_call 22; (with_reducible refine (time_badm a0 HB.out true _ _).mono ?_); rintro e w' ⟨rfl, rfl⟩)
      | (go_at_call 19; (with_reducible refine (next_nil _).mono ?_); rintro e w' ⟨rfl, rfl⟩)
      | (go_at_call 25; (with_reducible refine (rmoment_bad a0 _ HB.out).mono ?_); rintro e w' ⟨rfl, rfl⟩)
      | (go_at_call 12; (with_reducible refine (over_nil _).mono ?_); rintro e w' ⟨rfl, rfl⟩)
      | (go_at_call 13; (with_reducible refine (running_nil _).mono ?_); rintro e w' ⟨rfl, rfl⟩)
      | (go_at_call 10; (with_reducible refine (speaks_ok _).mono ?_); rintro e w5 ⟨rfl, hS⟩))
    go_ret
    exact ⟨rfl, hS⟩
end Go.Proofs.Ytlcblfkmadjppaa
