/- ChainJoined: the walk up to the last statement. -/
import Derived.Test.YtpkaaadnolmidaaOwn2
namespace Go.Proofs.Ytpkaaadnolmidaa
open Go.RowKit
set_option linter.unusedVariables false
set_option linter.unusedSimpArgs false

/-- A region's condition may be made stronger on the way. -/
theorem wpAnyH_imp {P : Program} {ops : Array Oper} {Q : Exit → Act → World → Prop} {md : Region.Mode} {S S' : World → Prop} (hS : ∀ w, S' w → S w) :
    ∀ (fuel : Nat) (listed : Array Bool) (a : Act) (w : World), wpAnyH P md ops Q S' fuel listed a w → wpAnyH P md ops Q S fuel listed a w
  | 0, _, _, _, h => h
  | fuel + 1, _, _, _, h => ⟨h.1, fun i hi => wpOp_mono (fun a' w' h' => ⟨hS w' h'.1, wpAnyH_imp hS fuel _ a' w' h'.2⟩) (h.2 i hi)⟩

/-- In two pieces as in one. -/
theorem joined_pure {A B : List Int} {bound high k1 k2 k : Nat} (h1 : k1 = min A.length bound) (h2 : k2 = min B.length (bound - k1)) (hk : k = min (A.length + B.length) bound) :
    k1 + k2 = k ∧ A.take k1 ++ B.take k2 = (A ++ B).take k ∧ putStop high k2 (A.take k1 ++ B.take k2) (putStop high k1 (A.take k1) false) = putStop high k ((A ++ B).take k) false := by
  have e1 : k1 + k2 = k := by omega
  have e2 : A.take k1 ++ B.take k2 = (A ++ B).take k := by
    rw [List.take_append]
    by_cases hA : A.length ≤ k
    · rw [List.take_of_length_le hA, show k1 = A.length by omega, List.take_length, show k2 = k - A.length by omega]
    · rw [show k2 = 0 by omega, show k1 = k by omega, show k - A.length = 0 by omega]
  refine ⟨e1, e2, ?_⟩
  rw [e2]
  have l1 : (A.take k1).length = k1 := by rw [List.length_take]; omega
  have l2 : ((A ++ B).take k).length = k := by rw [List.length_take, List.length_append]; omega
  unfold putStop
  rw [l1, l2]
  by_cases hk2 : k2 = 0
  · rw [if_pos hk2]
    have : k1 = k := by omega
    subst this
    rfl
  · rw [if_neg hk2, if_neg (show ¬ k = 0 by omega)]
    by_cases hk1 : k1 = 0
    · rw [if_pos hk1]
    · rw [if_neg hk1]
      by_cases hh : high ≤ k1
      · have g2 : high ≤ k := by omega
        simp [hh, g2]
      · simp [hh]

theorem pair_bad {w : World} {b h l : Int} (hm : ¬ marksOk b h l) : Calls Try.prog 8 #[.int .i64 b, .int .i64 h, .int .i64 l] w fun e w' => e = .returned (.tuple #[.pointer none, .int .i64 1]) ∧ w = w' := new_bad w b h l hm

set_option maxRecDepth 100000 in
theorem joined_bad (b h l : Int) (a1 : Option Addr) (len1 cap1 : Nat) (a2 : Option Addr) (len2 cap2 : Nat) (w : World) (hm : ¬ marksOk b h l) :
    Calls Try.prog 7 #[.agg #[.int .i64 b, .int .i64 h, .int .i64 l], .slice a1 len1 cap1, .slice a2 len2 cap2] w fun e w' => e = .returned (.bool true) ∧ Below w.heap.size w w' := by
  have HM := Lib.hid hm
  clear hm
  go_enter Try.func7, Try.ntmps7
  go_wp2_with (first
    | (go_at_call 8; (with_reducible refine (new_bad _ b h l HM.out).mono ?_); rintro e wa ⟨rfl, rfl⟩)
    | (go_at_call 10; (with_reducible refine (speaks_ok _).mono ?_); rintro e w2 ⟨rfl, hS⟩))
  go_ret
  refine ⟨rfl, ?_⟩
  have h1 : Below w.heap.size w (w.alloc (.cells #[.int .i64 b, .int .i64 h, .int .i64 l] 23)) := (Below.refl _ _).alloc (Nat.le_refl _) _
  exact below_only h1 (Below.only hS (fun _ => False)) h1.size (fun _ h => h.elim)
end Go.Proofs.Ytpkaaadnolmidaa
