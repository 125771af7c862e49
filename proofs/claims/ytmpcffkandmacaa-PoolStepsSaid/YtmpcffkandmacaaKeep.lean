/- A pool that a law made, and what it keeps beside it. -/
import Derived.Test.YtmpcffkandmacaaWalks10
namespace Go.Proofs.Ytmpcffkandmacaa
open Go.RowKit
set_option linter.unusedVariables false
set_option linter.unusedSimpArgs false

structure Rowd where
  v : Value
  e : TypeId
  size : Nat
  n : Nat
  xs : List Value
abbrev Kept := List (Nat × List Value × TypeId)
structure LqX (w0 w : World) (p : Nat) (P : Pp) (K : Kept) (R : List Rowd) (X : List (Nat × Cn)) (vl vw : Value) : Prop where
  pw : Pw w w0.heap.size p P X vl vw
  below : Below w0.heap.size w0 w
  k : ∀ x ∈ K, Blk w x.1 x.2.1 x.2.2 ∧ w0.heap.size ≤ x.1 ∧ ¬ foot p X vl vw x.1
  r : ∀ x ∈ R, w.ownsRow w0.heap.size x.e x.size x.v x.n x.xs ∧ ∀ k, x.v.ownBlock = some k → ¬ foot p X vl vw k
def Lq (w0 w : World) (p : Nat) (P : Pp) (K : Kept) (R : List Rowd) : Prop := ∃ X vl vw, LqX w0 w p P K R X vl vw
def acRow (v : Value) (l : List Ac) : Rowd := ⟨v, 27, 3, l.length, acCells l⟩

section
variable {w0 w w' : World} {p : Nat} {P P' : Pp} {K : Kept} {R : List Rowd} {X : List (Nat × Cn)} {vl vw : Value}
theorem LqX.pp (h : LqX w0 w p P K R X vl vw) : PP (foot p X vl vw) w w w0.heap.size p P := ⟨X, vl, vw, h.pw, Mv.refl _ _⟩
theorem LqX.call (h : LqX w0 w p P K R X vl vw) (hc : PP (foot p X vl vw) w w' w0.heap.size p P') : Lq w0 w' p P' K R := by
  obtain ⟨X', vl', vw', hp, hm⟩ := hc
  have key : ∀ k, k < w.heap.size → ¬ foot p X vl vw k → ¬ foot p X' vl' vw' k := fun k hk hn hf => by
    rcases hm.new_ k hf with h | h
    · exact hn h
    · omega
  refine ⟨X', vl', vw', hp, h.below.trans (hm.only.below h.below.size (fun i hi => (h.pw.lt i hi).1)), fun x hx => ?_, fun x hx => ?_⟩
  · obtain ⟨a, b, c⟩ := h.k x hx
    exact ⟨a.only hm.only c, b, key _ a.lt c⟩
  · obtain ⟨a, b⟩ := h.r x hx
    exact ⟨owns_only a hm.only b, fun k hk => key k (ownsRow_lt a k hk).2 (b k hk)⟩
theorem Lq.size (h : Lq w0 w p P K R) : w0.heap.size ≤ w.heap.size := by
  obtain ⟨X, vl, vw, h⟩ := h
  exact h.below.size
theorem Lq.below (h : Lq w0 w p P K R) : Below w0.heap.size w0 w := by
  obtain ⟨X, vl, vw, h⟩ := h
  exact h.below
theorem LqX.callA {v : Value} {o : List Ac} (h : LqX w0 w p P K R X vl vw) (hc : AcP (foot p X vl vw) w w w' w0.heap.size p P' v o) : Lq w0 w' p P' K (acRow v o :: R) := by
  have hs := h.below.size
  obtain ⟨X', vl', vw', h'⟩ := h.call hc.pp
  refine ⟨X', vl', vw', h'.pw, h'.below, h'.k, fun x hx => ?_⟩
  rcases List.mem_cons.1 hx with rfl | hx
  · exact ⟨ownsRow_lower hc.row hs, h'.pw.row_ne hc.row (by decide) (by decide) (by decide) (by decide)⟩
  · exact h'.r x hx
theorem Lq.only0 (h : Lq w0 w p P K R) (ho : Only (fun _ => False) w w') : Lq w0 w' p P K R := by
  obtain ⟨X, vl, vw, h⟩ := h
  exact h.call (h.pp.only0 ho)
theorem Lq.weak {K' : Kept} {R' : List Rowd} (h : Lq w0 w p P K R) (hK : ∀ x ∈ K', x ∈ K) (hR : ∀ x ∈ R', x ∈ R) : Lq w0 w p P K' R' := by
  obtain ⟨X, vl, vw, h⟩ := h
  exact ⟨X, vl, vw, h.pw, h.below, fun x hx => h.k x (hK x hx), fun x hx => h.r x (hR x hx)⟩
theorem Lq.new_ (h : Lq w0 w p P K R) (cs : List Value) (t : TypeId) : Lq w0 (w.alloc (.cells cs.toArray t)) p P ((w.heap.size, cs, t) :: K) R := by
  have hs := h.size
  have hl : ∀ k, (∃ X vl vw, LqX w0 w p P K R X vl vw ∧ foot p X vl vw k) → k < w.heap.size := by
    rintro k ⟨X, vl, vw, h, hk⟩
    exact (h.pw.lt k hk).2
  obtain ⟨X, vl, vw, h⟩ := h
  have ho : Only (fun _ => False) w (w.alloc (.cells cs.toArray t)) := (Only.refl _ _).alloc _
  refine ⟨X, vl, vw, h.pw.only ho (fun _ _ h => h), h.below.trans (ho.below hs (fun _ h => h.elim)), fun x hx => ?_, fun x hx => ?_⟩
  · rcases List.mem_cons.1 hx with rfl | hx
    · exact ⟨Blk.new w cs t, hs, fun hf => absurd (hl _ ⟨X, vl, vw, h, hf⟩) (Nat.lt_irrefl _)⟩
    · obtain ⟨a, b, c⟩ := h.k x hx
      exact ⟨a.only ho (fun h => h), b, c⟩
  · obtain ⟨a, b⟩ := h.r x hx
    exact ⟨owns_only a ho (fun _ _ h => h), b⟩
theorem Lq.kept (h : Lq w0 w p P K R) {g : Nat} {cs : List Value} {t : TypeId} (hm : (g, cs, t) ∈ K) : Blk w g cs t := by
  obtain ⟨X, vl, vw, h⟩ := h
  exact (h.k _ hm).1
theorem Lq.rowd (h : Lq w0 w p P K R) {x : Rowd} (hm : x ∈ R) : w.ownsRow w0.heap.size x.e x.size x.v x.n x.xs := by
  obtain ⟨X, vl, vw, h⟩ := h
  exact (h.r _ hm).1
theorem Lq.rowA (h : Lq w0 w p P K R) {v : Value} {o : List Ac} (hm : acRow v o ∈ R) : w.ownsRow w0.heap.size 27 3 v o.length (acCells o) := h.rowd hm
theorem lq_made (h : NewP w w' p P) : Lq w w' p P [] [] :=
  ⟨_, _, _, h.1, h.2.below (Nat.le_refl _) (fun _ h => h.elim), fun x hx => by (cases hx), fun x hx => by (cases hx)⟩

theorem lq_ask (h : Lq w0 w p P K R) {k : Nat} (hk : Okp P k) (hk9 : k < 9223372036854775807) (now who : Int) :
    Calls Try.prog 9 #[ptr p, .int .i64 now, .int .i64 who] w fun e w' => e = .returned (.tuple #[acV (ask P now who).2.1, .int .i64 (ask P now who).2.2]) ∧ Lq w0 w' p (ask P now who).1 K R := by
  obtain ⟨X, vl, vw, h⟩ := h
  exact (ask_any h.pp hk hk9 now who).mono (by rintro e w' ⟨rfl, hP⟩; exact ⟨rfl, h.call hP⟩)
theorem lq_up (h : Lq w0 w p P K R) (n : Int) : Calls Try.prog 10 #[ptr p, .int .i64 n] w fun e w' => e = .returned (.tuple #[.int .i64 (up P n).2.1, .int .i64 (up P n).2.2]) ∧ Lq w0 w' p (up P n).1 K R := by
  obtain ⟨X, vl, vw, h⟩ := h
  exact (up_any h.pp n).mono (by rintro e w' ⟨rfl, hP⟩; exact ⟨rfl, h.call hP⟩)
theorem lq_done (h : Lq w0 w p P K R) {k : Nat} (hk : Okp P k) (hk9 : k + 1 < 9223372036854775807) (now n : Int) (keep : Bool) :
    Calls Try.prog 11 #[ptr p, .int .i64 now, .int .i64 n, .bool keep] w fun e w' => ∃ v, e = .returned (.tuple #[v, .int .i64 (done P now n keep).2.2]) ∧ Lq w0 w' p (done P now n keep).1 K (acRow v (done P now n keep).2.1 :: R) := by
  obtain ⟨X, vl, vw, h⟩ := h
  exact (done_any h.pp hk hk9 now n keep).mono (by rintro e w' ⟨v, rfl, hP⟩; exact ⟨v, rfl, h.callA hP⟩)
theorem lq_gone (h : Lq w0 w p P K R) {k : Nat} (hk : Okp P k) (hk9 : k < 9223372036854775807) (now n : Int) :
    Calls Try.prog 36 #[ptr p, .int .i64 now, .int .i64 n] w fun e w' => ∃ v, e = .returned (.tuple #[.int .i64 (gone P now n).2.1, v, .int .i64 (gone P now n).2.2.2]) ∧ Lq w0 w' p (gone P now n).1 K (acRow v (gone P now n).2.2.1 :: R) := by
  obtain ⟨X, vl, vw, h⟩ := h
  exact (gone_any h.pp hk hk9 now n).mono (by rintro e w' ⟨v, rfl, hP⟩; exact ⟨v, rfl, h.callA hP⟩)
theorem lq_size (h : Lq w0 w p P K R) :
    Calls Try.prog 12 #[ptr p] w fun e w' => e = .returned (.tuple #[.int .i64 (P.l.length : Nat), .int .i64 (resting P.l : Nat), .int .i64 (P.waits.length : Nat)]) ∧ Lq w0 w' p P K R := by
  have h0 := h
  obtain ⟨X, vl, vw, h⟩ := h
  exact (size_any h.pp).mono (by rintro e w' ⟨rfl, hP⟩; exact ⟨rfl, h0.only0 hP⟩)
end
end Go.Proofs.Ytmpcffkandmacaa
