/- chain.New, Len, Room, Stopped, Peek, Drop, Take. -/
import Derived.Test.YtpkaaadnolmidaaBase
import Derived.RegionTactic
import Derived.BigRegion
import Derived.BigQuiet
import Derived.Deep.QuietTactic
import Derived.StillTailTactics
import Derived.Deep.RegionWith
import Derived.LoopTactic
import Derived.KernelRfl
namespace Go.Proofs.Ytpkaaadnolmidaa
open Go.RowKit
set_option linter.unusedVariables false

section
variable {w : World} {p : Nat} {g : Option Nat} {r : List Int} {fr bound high low : Nat} {L : List Int} {stop : Bool}

theorem len_any (h : Ch w p g r fr bound high low L stop) : Calls Try.prog 20 #[.pointer (some ⟨p, 0, none⟩)] w fun e w' => e = .returned (.int .i64 L.length) ∧ w = w' := by
  have hc := h.blk.cell 5 _ rfl
  clear h
  go_enter Try.func20, Try.ntmps20
  go_wp2
  go_ret
  exact ⟨rfl, rfl⟩
theorem len_nil (w : World) : Calls Try.prog 20 #[.pointer none] w fun e w' => e = .returned (.int .i64 0) ∧ w = w' := by
  go_enter Try.func20, Try.ntmps20
  go_wp2
  go_ret
  exact ⟨rfl, rfl⟩

theorem room_any (h : Ch w p g r fr bound high low L stop) : Calls Try.prog 21 #[.pointer (some ⟨p, 0, none⟩)] w fun e w' => e = .returned (.int .i64 ((bound : Int) - L.length)) ∧ Drawn w w' := by
  have hc := h.blk.cell 5 _ rfl
  have hc0 := h.blk.cell 0 _ rfl
  have h1 := h.fit
  have h2 := h.max
  have h3 := h.most
  clear h
  go_enter Try.func21, Try.ntmps21
  go_wp2
  go_quiet (fail)
  go_wp2
  go_ret
  exact ⟨rfl, Drawn.of _ _⟩
theorem room_nil (w : World) : Calls Try.prog 21 #[.pointer none] w fun e w' => e = .returned (.int .i64 0) ∧ w = w' := by
  go_enter Try.func21, Try.ntmps21
  go_wp2
  go_ret
  exact ⟨rfl, rfl⟩

theorem stopped_any (h : Ch w p g r fr bound high low L stop) : Calls Try.prog 22 #[.pointer (some ⟨p, 0, none⟩)] w fun e w' => e = .returned (.bool stop) ∧ w = w' := by
  have hc := h.blk.cell 6 _ rfl
  clear h
  go_enter Try.func22, Try.ntmps22
  go_wp2
  go_ret
  exact ⟨rfl, rfl⟩
theorem stopped_nil (w : World) : Calls Try.prog 22 #[.pointer none] w fun e w' => e = .returned (.bool false) ∧ w = w' := by
  go_enter Try.func22, Try.ntmps22
  go_wp2
  go_ret
  exact ⟨rfl, rfl⟩
end

/-- Are a chain's numbers right? -/
def marksOk (bound high low : Int) : Prop := (1 ≤ bound ∧ bound ≤ 1048576) ∧ (1 ≤ high ∧ high ≤ bound) ∧ (0 ≤ low ∧ low < high)
instance (a b c : Int) : Decidable (marksOk a b c) := inferInstanceAs (Decidable (_ ∧ _))

structure NewPost (w w' : World) (bound high low : Nat) : Prop where
  ch : Ch w' w.heap.size none [] 0 bound high low [] false
  below : Below w.heap.size w w'
  size : w'.heap.size = w.heap.size + 1

set_option maxRecDepth 100000 in
theorem new_ok (w : World) (bound high low : Nat) (h : marksOk bound high low) :
    Calls Try.prog 8 #[.int .i64 bound, .int .i64 high, .int .i64 low] w fun e w' => e = .returned (.tuple #[.pointer (some ⟨w.heap.size, 0, none⟩), .int .i64 0]) ∧ NewPost w w' bound high low := by
  obtain ⟨⟨h1, h2⟩, ⟨h3, h4⟩, h5, h6⟩ := h
  go_enter Try.func8, Try.ntmps8
  go_wp2
  go_ret2
  refine ⟨rfl, ⟨⟨?_, fun _ => ⟨rfl, rfl⟩, fun k hk => by simp at hk, Nat.le_refl _, by simp, by omega, by omega, fun i hi => absurd hi (by simp)⟩, (Below.refl _ _).alloc (Nat.le_refl _) _, by simp⟩⟩
  exact Blk.new w [.int .i64 bound, .int .i64 high, .int .i64 low, .slice none 0 0, .int .i64 0, .int .i64 0, .bool false] 47

/-- The ways in which numbers are not right. -/
theorem marks_bad {bound high low : Int} (h : ¬ marksOk bound high low) : bound < 1 ∨ (1 ≤ bound ∧ 1048576 < bound) ∨ ((1 ≤ bound ∧ bound ≤ 1048576) ∧ high < 1) ∨ ((1 ≤ bound ∧ bound ≤ 1048576) ∧ 1 ≤ high ∧ bound < high) ∨
    (((1 ≤ bound ∧ bound ≤ 1048576) ∧ 1 ≤ high ∧ high ≤ bound) ∧ low < 0) ∨ (((1 ≤ bound ∧ bound ≤ 1048576) ∧ 1 ≤ high ∧ high ≤ bound) ∧ 0 ≤ low ∧ high ≤ low) := by
  unfold marksOk at h
  omega

set_option maxRecDepth 100000 in
theorem new_bad (w : World) (bound high low : Int) (h : ¬ marksOk bound high low) :
    Calls Try.prog 8 #[.int .i64 bound, .int .i64 high, .int .i64 low] w fun e w' => e = .returned (.tuple #[.pointer none, .int .i64 1]) ∧ w = w' := by
  rcases marks_bad h with h | ⟨h1, h2⟩ | ⟨⟨h1, h2⟩, h3⟩ | ⟨⟨h1, h2⟩, h3, h4⟩ | ⟨⟨⟨h1, h2⟩, h3, h4⟩, h5⟩ | ⟨⟨⟨h1, h2⟩, h3, h4⟩, h5, h6⟩
  all_goals
    go_enter Try.func8, Try.ntmps8
    go_wp2
    go_ret2
    exact ⟨rfl, rfl⟩
end Go.Proofs.Ytpkaaadnolmidaa
