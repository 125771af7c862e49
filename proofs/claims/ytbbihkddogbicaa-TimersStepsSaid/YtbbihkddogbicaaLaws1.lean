/- speaks; TimersNil. -/
import Derived.Test.YtbbihkddogbicaaKeep
import Derived.Test.YtbbihkddogbicaaRef6
namespace Go.Proofs.Ytbbihkddogbicaa
open Go.RowKit
set_option linter.unusedVariables false
set_option linter.unusedSimpArgs false

def sA : Tm := ⟨5, 1, 1, 0, 1⟩
def sB : Tm := ⟨3, 2, 2, 1, 1⟩
def sC : Tm := ⟨9, 3, 4, 0, 2⟩
theorem new_a : newOf [] [] 0 5 1 = sA := by decide
theorem used_a : usedOf [] [] = [1] := by decide
theorem new_b : newOf [sA] [1] 1 3 2 = sB := by decide
theorem used_b : usedOf [sA] [1] = [1, 1] := by decide
theorem new_c : newOf [] [1, 1] 2 9 4 = sC := by decide
theorem used_c : usedOf [] [1, 1] = [2, 1] := by decide
theorem fire_ab : fire 5 [sA, sB] = [sB, sA] ∧ stay 5 [sA, sB] = [] := by
  have h1 := fire_step (now := 5) (ts := [sA, sB]) (by decide)
  have e1 : firstL [sA, sB] = sB := by decide
  have e2 : rest [sA, sB] sB = [sA] := by decide
  rw [e1, e2] at h1
  have h2 := fire_step (now := 5) (ts := [sA]) (by decide)
  have e3 : firstL [sA] = sA := by decide
  have e4 : rest [sA] sA = [] := by decide
  rw [e3, e4] at h2
  have h3 := fire_stop (now := 5) (ts := []) (by decide)
  rw [h1.1, h1.2, h2.1, h2.2, h3.1, h3.2]
  exact ⟨rfl, rfl⟩

section
variable {w0 w : World} {p : Nat} {v : Value} {l : List Int}
theorem sp_a (h : SM w0 w p 2 [] [] 0 v l) : Calls Try.prog 11 #[.pointer (some ⟨p, 0, none⟩), .int .i64 5, .int .i64 1] w fun e w' => e = .returned (.tuple #[.int .i64 4096, .int .i64 0]) ∧ SM w0 w' p 2 [sA] [1] 1 v l := by
  have := sm_set h (at_ := 5) (key := 1) (by decide) (by decide) (by decide)
  rw [new_a, used_a] at this
  exact this
theorem sp_b (h : SM w0 w p 2 [sA] [1] 1 v l) : Calls Try.prog 11 #[.pointer (some ⟨p, 0, none⟩), .int .i64 3, .int .i64 2] w fun e w' => e = .returned (.tuple #[.int .i64 4097, .int .i64 0]) ∧ SM w0 w' p 2 [sA, sB] [1, 1] 2 v l := by
  have := sm_set h (at_ := 3) (key := 2) (by decide) (by decide) (by decide)
  rw [new_b, used_b] at this
  exact this
theorem sp_f (h : SM w0 w p 2 [sA, sB] [1, 1] 2 v l) : Calls Try.prog 18 #[.pointer (some ⟨p, 0, none⟩), .int .i64 5] w fun e w' => ∃ r, e = .returned r ∧ SM w0 w' p 2 [] [1, 1] 2 r [2, 1] := by
  have := sm_fire_keep h 5
  rw [fire_ab.1, fire_ab.2] at this
  exact this
theorem sp_c (h : SM w0 w p 2 [] [1, 1] 2 v l) : Calls Try.prog 11 #[.pointer (some ⟨p, 0, none⟩), .int .i64 9, .int .i64 4] w fun e w' => e = .returned (.tuple #[.int .i64 8192, .int .i64 0]) ∧ SM w0 w' p 2 [sC] [2, 1] 3 v l := by
  have := sm_set h (at_ := 9) (key := 4) (by decide) (by decide) (by decide)
  rw [new_c, used_c] at this
  exact this
theorem sp_x (h : SM w0 w p 2 [sC] [2, 1] 3 v l) : Calls Try.prog 15 #[.pointer (some ⟨p, 0, none⟩), .int .i64 4096] w fun e w' => e = .returned (.bool false) ∧ SM w0 w' p 2 [sC] [2, 1] 3 v l := by
  have := sm_cancel h 4096 (by omega)
  rw [show has [sC] 4096 = false by decide, show without [sC] 4096 = [sC] by decide] at this
  exact this
theorem sp_h (h : SM w0 w p 2 [sC] [2, 1] 3 v l) : Calls Try.prog 13 #[.pointer (some ⟨p, 0, none⟩), .int .i64 8192] w fun e w' => e = .returned (.bool true) ∧ Only (fun _ => False) w w' := by
  have := sm_has h 8192 (by omega)
  rw [show has [sC] 8192 = true by decide] at this
  exact this
theorem sp_n (h : SM w0 w p 2 [sA, sB] [1, 1] 2 v l) : Calls Try.prog 20 #[.pointer (some ⟨p, 0, none⟩)] w fun e w' => e = .returned (.tuple #[.int .i64 3, .bool true]) ∧ w = w' :=
  sm_next_some h (by decide)
theorem sp_l (h : SM w0 w p 2 [sC] [2, 1] 3 v l) : Calls Try.prog 22 #[.pointer (some ⟨p, 0, none⟩)] w fun e w' => e = .returned (.int .i64 1) ∧ w = w' :=
  sm_len h
theorem sp_i (h : SM w0 w p 2 [sC] [2, 1] 3 v [2, 1]) : Calls Try.prog 17 #[v, .slice (some ⟨w.heap.size, 0, none⟩) 2 2] (w.alloc (.cells #[.int .i64 2, .int .i64 1] 3)) fun e w' => e = .returned (.bool true) ∧ SM w0 w' p 2 [sC] [2, 1] 3 v [2, 1] := by
  obtain ⟨w2, hw2⟩ : ∃ w2, w2 = w.alloc (.cells #[.int .i64 2, .int .i64 1] 3) := ⟨_, rfl⟩
  have hb : Blk w2 w.heap.size [.int .i64 2, .int .i64 1] 3 := by rw [hw2]; exact Blk.new w [.int .i64 2, .int .i64 1] 3
  have ho : Only (fun _ => False) w w2 := by rw [hw2]; exact (Only.refl _ _).alloc _
  rw [← hw2]
  refine (ints_same (l := [2, 1]) (h.only ho).irow (IRow.blk hb (by decide) rfl)).mono ?_
  rintro e w' ⟨rfl, hO⟩
  exact ⟨rfl, (h.only ho).only hO⟩
end

set_option maxRecDepth 100000 in
theorem speaks_ok (w : World) : Calls Try.prog 10 #[] w fun e w' => e = .returned (.bool true) ∧ Below w.heap.size w w' := by
  go_enter Try.func10, Try.ntmps10
  go_wp2_with (first
    | (go_at_call 8; (with_reducible refine (sm_new w 2 2 rfl (by decide)).mono ?_); rintro e w1 ⟨rfl, hN⟩)
    | (go_at_call 11; (with_reducible refine (sp_a hN).mono ?_); rintro e w2 ⟨rfl, hA⟩)
    | (go_at_call 11; (with_reducible refine (sp_b hA).mono ?_); rintro e w3 ⟨rfl, hB⟩)
    | (go_at_call 11; (with_reducible refine (sm_set_full hB (by decide) rfl).mono ?_); rintro e w4 ⟨rfl, hF⟩)
    | (go_at_call 20; (with_reducible refine (sp_n hF).mono ?_); rintro e w' ⟨rfl, rfl⟩)
    | (go_at_call 18; (with_reducible refine (sp_f hF).mono ?_); rintro e w5 ⟨r, rfl, hR⟩)
    | (go_at_call 11; (with_reducible refine (sp_c hR).mono ?_); rintro e w6 ⟨rfl, hC⟩)
    | (go_at_call 17; (with_reducible refine (sp_i hC).mono ?_); rintro e w7 ⟨rfl, hI⟩)
    | (go_at_call 15; (with_reducible refine (sp_x hI).mono ?_); rintro e w8 ⟨rfl, hX⟩)
    | (go_at_call 13; (with_reducible refine (sp_h hX).mono ?_); rintro e w9 ⟨rfl, hH⟩)
    | (go_at_call 22; (with_reducible refine (sp_l (hX.only hH)).mono ?_); rintro e w' ⟨rfl, rfl⟩))
  go_ret
  exact ⟨rfl, (hX.only hH).below⟩

theorem nil_walk (a0 a1 : Int) (w : World) (w0 : (Lit.int .i64 a0).wf = true) (w1 : (Lit.int .i64 a1).wf = true) :
    Calls Try.prog 6 #[.int .i64 a0, .int .i64 a1] w fun e w' => e = .returned (.bool true) ∧ Below w.heap.size w w' := by
  by_cases h : 0 ≤ a0 ∧ a0 ≤ 4611686018427387904
  · obtain ⟨h1, h2⟩ := h
    clear w0 w1
    go_enter Try.func6, Try.ntmps6
    go_wp2_with (first
      | (go_at_call 11; (with_reducible refine (set_nil ⟨h1, h2⟩ a1 _).mono ?_); rintro e w2 ⟨rfl, hD⟩)
      | (go_at_call 23; (with_reducible refine (rmoment_ok a0 _ h1 h2).mono ?_); rintro e w' ⟨rfl, rfl⟩)
      | (go_at_call 20; (with_reducible refine (next_nil _).mono ?_); rintro e w' ⟨rfl, rfl⟩)
      | (go_at_call 15; (with_reducible refine (cancel_nil a1 _).mono ?_); rintro e w' ⟨rfl, rfl⟩)
      | (go_at_call 13; (with_reducible refine (has_nil a1 _).mono ?_); rintro e w' ⟨rfl, rfl⟩)
      | (go_at_call 18; (with_reducible refine (fire_nil a0 _).mono ?_); rintro e w' ⟨rfl, rfl⟩)
      | (go_at_call 22; (with_reducible refine (len_nil _).mono ?_); rintro e w' ⟨rfl, rfl⟩)
      | (go_at_call 10; (with_reducible refine (speaks_ok _).mono ?_); rintro e w3 ⟨rfl, hS⟩))
    go_ret
    obtain ⟨n, rfl⟩ := hD
    exact ⟨rfl, ((Drawn.of w n).below _).trans hS⟩
  · have hb : a0 < 0 ∨ 4611686018427387904 < a0 := by omega
    have HB := Lib.hid hb
    clear w0 w1 h hb
    go_enter Try.func6, Try.ntmps6
    go_wp2_with (first
      | (go_at_call 11; (with_reducible refine (set_bad HB.out none a1 _).mono ?_); rintro e w' ⟨rfl, rfl⟩)
      | (go_at_call 23; (with_reducible refine (rmoment_bad a0 _ HB.out).mono ?_); rintro e w' ⟨rfl, rfl⟩)
      | (go_at_call 20; (with_reducible refine (next_nil _).mono ?_); rintro e w' ⟨rfl, rfl⟩)
      | (go_at_call 15; (with_reducible refine (cancel_nil a1 _).mono ?_); rintro e w' ⟨rfl, rfl⟩)
      | (go_at_call 13; (with_reducible refine (has_nil a1 _).mono ?_); rintro e w' ⟨rfl, rfl⟩)
      | (go_at_call 18; (with_reducible refine (fire_nil a0 _).mono ?_); rintro e w' ⟨rfl, rfl⟩)
      | (go_at_call 22; (with_reducible refine (len_nil _).mono ?_); rintro e w' ⟨rfl, rfl⟩)
      | (go_at_call 10; (with_reducible refine (speaks_ok _).mono ?_); rintro e w3 ⟨rfl, hS⟩))
    go_ret
    exact ⟨rfl, hS⟩
end Go.Proofs.Ytbbihkddogbicaa
