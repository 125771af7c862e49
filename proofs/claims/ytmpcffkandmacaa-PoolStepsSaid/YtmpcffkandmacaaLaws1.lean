/- speaks; PoolNil. -/
import Derived.Test.YtmpcffkandmacaaKeep
namespace Go.Proofs.Ytmpcffkandmacaa
open Go.RowKit
set_option linter.unusedVariables false
set_option linter.unusedSimpArgs false

def spP0 : Pp := newP 1 1 5 100
def spP1 : Pp := ⟨1, 1, 5, 100, 1, 0, [⟨0, 0, 7, 0, 0, 0⟩], []⟩
def spP2 : Pp := ⟨1, 1, 5, 100, 1, 0, [⟨0, 1, 7, 0, 0, 0⟩], []⟩
def spP3 : Pp := ⟨1, 1, 5, 100, 1, 0, [⟨0, 1, 7, 0, 0, 0⟩], [8]⟩
def spP4 : Pp := ⟨1, 1, 5, 100, 1, 1, [⟨0, 1, 8, 1, 0, 1⟩], []⟩
theorem sp_1 : ask spP0 0 7 = (spP1, ⟨1, 0, 7⟩, 0) := by decide
theorem sp_2 : up spP1 0 = (spP2, 7, 0) := by decide
theorem sp_3 : ask spP2 0 8 = (spP3, ⟨3, -1, 8⟩, 0) := by decide
theorem sp_4 : ask spP3 0 9 = (spP3, ⟨4, -1, 9⟩, 0) := by decide
theorem sp_5 : done spP3 1 0 true = (spP4, [⟨2, 0, 8⟩], 0) := by decide
theorem sp_6 : spP4.l.length = 1 ∧ resting spP4.l = 0 ∧ spP4.waits.length = 0 := by decide
theorem okn_sp {P : Pp} (h : P.cap = 1 ∧ P.pend = 1 ∧ P.idle = 5 ∧ P.life = 100) : OkN P := by
  obtain ⟨a, b, c, d⟩ := h
  exact ⟨by omega, by omega, by omega, by omega⟩
instance (P : Pp) : Decidable (OkT P) := by unfold OkT; infer_instance
theorem okp0 : Okp spP0 100 := ⟨okn_sp (by decide), by decide, by decide, by decide, by decide, by decide⟩
theorem okp2 : Okp spP2 100 := ⟨okn_sp (by decide), by decide, by decide, by decide, by decide, by decide⟩
theorem okp3 : Okp spP3 100 := ⟨okn_sp (by decide), by decide, by decide, by decide, by decide, by decide⟩
theorem eq27a : ∀ w : World, (binOp .eql 27 (.agg #[.int .i64 1, .int .i64 0, .int .i64 7]) (.agg #[.int .i64 1, .int .i64 0, .int .i64 7])).run Try.prog w = .ok (.bool true) w := fun w => by kernel_rfl
theorem eq27b : ∀ w : World, (binOp .eql 27 (.agg #[.int .i64 3, .int .i64 (-1), .int .i64 8]) (.agg #[.int .i64 3, .int .i64 (-1), .int .i64 8])).run Try.prog w = .ok (.bool true) w := fun w => by kernel_rfl
theorem eq27c : ∀ w : World, (binOp .eql 27 (.agg #[.int .i64 4, .int .i64 (-1), .int .i64 9]) (.agg #[.int .i64 4, .int .i64 (-1), .int .i64 9])).run Try.prog w = .ok (.bool true) w := fun w => by kernel_rfl
theorem eq27d : ∀ w : World, (binOp .eql 27 (.agg #[.int .i64 2, .int .i64 0, .int .i64 8]) (.agg #[.int .i64 2, .int .i64 0, .int .i64 8])).run Try.prog w = .ok (.bool true) w := fun w => by kernel_rfl
section
variable {w0 w : World} {q : Nat} {K : Kept} {R : List Rowd}
theorem sp_new (w : World) : Calls Try.prog 8 #[.int .i64 1, .int .i64 1, .int .i64 5, .int .i64 100] w fun e w' => ∃ p, e = .returned (.tuple #[ptr p, .int .i64 0]) ∧ Lq w w' p spP0 [] [] :=
  (new_ok 1 1 5 100 (okn_sp (by decide)) w).mono (by rintro e w' ⟨p, rfl, h⟩; exact ⟨p, rfl, lq_made h⟩)
theorem sp_ask1 (h : Lq w0 w q spP0 K R) : Calls Try.prog 9 #[ptr q, .int .i64 0, .int .i64 7] w fun e w' => e = .returned (.tuple #[acV ⟨1, 0, 7⟩, .int .i64 0]) ∧ Lq w0 w' q spP1 K R := by
  have := lq_ask h okp0 (by decide) 0 7
  rwa [sp_1] at this
theorem sp_up (h : Lq w0 w q spP1 K R) : Calls Try.prog 10 #[ptr q, .int .i64 0] w fun e w' => e = .returned (.tuple #[.int .i64 7, .int .i64 0]) ∧ Lq w0 w' q spP2 K R := by
  have := lq_up h 0
  rwa [sp_2] at this
theorem sp_ask2 (h : Lq w0 w q spP2 K R) : Calls Try.prog 9 #[ptr q, .int .i64 0, .int .i64 8] w fun e w' => e = .returned (.tuple #[acV ⟨3, -1, 8⟩, .int .i64 0]) ∧ Lq w0 w' q spP3 K R := by
  have := lq_ask h okp2 (by decide) 0 8
  rwa [sp_3] at this
theorem sp_ask3 (h : Lq w0 w q spP3 K R) : Calls Try.prog 9 #[ptr q, .int .i64 0, .int .i64 9] w fun e w' => e = .returned (.tuple #[acV ⟨4, -1, 9⟩, .int .i64 0]) ∧ Lq w0 w' q spP3 K R := by
  have := lq_ask h okp3 (by decide) 0 9
  rwa [sp_4] at this
theorem sp_done (h : Lq w0 w q spP3 K R) : Calls Try.prog 11 #[ptr q, .int .i64 1, .int .i64 0, .bool true] w fun e w' => ∃ v, e = .returned (.tuple #[v, .int .i64 0]) ∧ Lq w0 w' q spP4 K (acRow v [⟨2, 0, 8⟩] :: R) := by
  have := lq_done h okp3 (by decide) 1 0 true
  rwa [sp_5] at this
theorem sp_size (h : Lq w0 w q spP4 K R) : Calls Try.prog 12 #[ptr q] w fun e w' => e = .returned (.tuple #[.int .i64 1, .int .i64 0, .int .i64 0]) ∧ Lq w0 w' q spP4 K R := by
  have := lq_size h
  rw [sp_6.1, sp_6.2.1, sp_6.2.2] at this
  exact this
end
theorem Lq.act {w0 w : World} {p : Nat} {P : Pp} {K : Kept} {R : List Rowd} (h : Lq w0 w p P K R) (a b c : Int) : Lq w0 (w.alloc (Obj.cells #[.int .i64 a, .int .i64 b, .int .i64 c] 27)) p P ((w.heap.size, [.int .i64 a, .int .i64 b, .int .i64 c], 27) :: K) R := h.new_ [.int .i64 a, .int .i64 b, .int .i64 c] 27
set_option maxRecDepth 100000 in
theorem speaks_ok (w : World) : Calls Try.prog 13 #[] w fun e w' => e = .returned (.bool true) ∧ Below w.heap.size w w' := by
  have z27 := zero27
  have ea := eq27a
  have eb := eq27b
  have ec := eq27c
  have ed := eq27d
  go_enter Try.func13, Try.ntmps13
  go_upto_region 10 with (first
    | (go_at_call 8; (with_reducible refine (sp_new w).mono ?_); rintro e w1 ⟨p, rfl, hN⟩; have HN := Lib.hid hN; clear hN)
    | (go_at_call 9; (with_reducible refine (sp_ask1 HN.out).mono ?_); rintro e w2 ⟨rfl, hA⟩; have HA := Lib.hid (hA.act 1 0 7); clear hA)
    | (go_at_call 10; (with_reducible refine (sp_up HA.out).mono ?_); rintro e w3 ⟨rfl, hB⟩; have HB := Lib.hid hB; clear hB)
    | (go_at_call 9; (with_reducible refine (sp_ask2 HB.out).mono ?_); rintro e w4 ⟨rfl, hC⟩; have HC := Lib.hid (hC.act 3 (-1) 8); clear hC)
    | (go_at_call 9; (with_reducible refine (sp_ask3 HC.out).mono ?_); rintro e w5 ⟨rfl, hD⟩; have HD := Lib.hid (hD.act 4 (-1) 9); clear hD)
    | (go_at_call 11; (with_reducible refine (sp_done HD.out).mono ?_); rintro e w6 ⟨v, rfl, hE⟩; obtain ⟨g, cap, C, rfl, _, hgb, hg1, hg2, _⟩ := ownsRow_blk (hE.rowA (List.mem_cons_self ..)) (by simp); have HE := Lib.hid hE; clear hE)
    | (go_at_call 12; (with_reducible refine (sp_size HE.out).mono ?_); rintro e w7 ⟨rfl, hF⟩; have HF := Lib.hid hF; clear hF))
  obtain ⟨g', cap', C', e, _, hgb, _⟩ := ownsRow_blk (HF.out.rowA (List.mem_cons_self ..)) (by simp)
  injection e with e1 _ e3
  injection e1 with e1
  injection e1 with e1 _
  subst e1
  have k3 := HF.out.kept (List.mem_cons_self ..)
  have k2 := HF.out.kept (List.mem_cons_of_mem _ (List.mem_cons_self ..))
  have k1 := HF.out.kept (List.mem_cons_of_mem _ (List.mem_cons_of_mem _ (List.mem_cons_self ..)))
  have a0 := k1.cell 0 _ rfl
  have a1 := k1.cell 1 _ rfl
  have a2 := k1.cell 2 _ rfl
  have b0 := k2.cell 0 _ rfl
  have b1 := k2.cell 1 _ rfl
  have b2 := k2.cell 2 _ rfl
  have c0 := k3.cell 0 _ rfl
  have c1 := k3.cell 1 _ rfl
  have c2 := k3.cell 2 _ rfl
  have d0 := hgb.cell 0 _ rfl
  have d1 := hgb.cell 1 _ rfl
  have d2 := hgb.cell 2 _ rfl
  have l1 := k1.lt
  have l2 := k2.lt
  have l3 := k3.lt
  have l4 := hgb.lt
  clear k1 k2 k3 hgb e3
  simp only [List.length_singleton] at *
  go_wp2_with fail
  go_ret
  exact ⟨rfl, HF.out.below⟩
end Go.Proofs.Ytmpcffkandmacaa
