/- ChainSteps: the loop's relation, and what each kind of step does to it. -/
import Derived.Test.YtpkaaadnolmidaaSteps
import Derived.Test.YtpkaaadnolmidaaJoined1
import Derived.Test.YtpkaaadnolmidaaRef4
namespace Go.Proofs.Ytpkaaadnolmidaa
open Go.RowKit
set_option linter.unusedVariables false
set_option linter.unusedSimpArgs false

/-- Ahead of a round: the chain and the reference's chain have the same. -/
structure SI (w0 w : World) (p pw lo bound high low : Nat) (g : Option Nat) (r : List Int) (fr : Nat) (v : Value) (L : List Int) (st : Bool) : Prop where
  ch : Ch w p g r fr bound high low L st
  rc : Rc w lo pw v bound high low L st
  own : Only (fun k => w0.heap.size ≤ k) w0 w
  apart : ∀ k, foot p g k → ¬ rfoot pw v k
  low_ : ∀ k, foot p g k → w0.heap.size ≤ k
  lo_ : w0.heap.size ≤ lo ∧ lo ≤ w.heap.size

/-- Only blocks turn that are nobody's. -/
theorem SI.far {S : Nat → Prop} {w0 w w' : World} {p pw lo bound high low : Nat} {g : Option Nat} {r : List Int} {fr : Nat} {v : Value} {L : List Int} {st : Bool} (h : SI w0 w p pw lo bound high low g r fr v L st)
    (ho : Only S w w') (hd : ∀ k, S k → w.heap.size ≤ k) : SI w0 w' p pw lo bound high low g r fr v L st :=
  have hs := h.own.size
  ⟨h.ch.only ho (fun k hk hS => by have := h.ch.lt k hk; have := hd k hS; omega), h.rc.only ho (fun k hk hS => by have := h.rc.lt k hk; have := hd k hS; omega),
    h.own.trans ho (fun i _ hS => by have := hd i hS; omega), h.apart, h.low_, h.lo_.1, Nat.le_trans h.lo_.2 ho.size⟩

theorem rfoot_turn {w : World} {pw lo bound high low : Nat} {v v' : Value} {L : List Int} {st : Bool} (h : Rc w lo pw v bound high low L st) (hv : ∀ b, v'.ownBlock = some b → v.ownBlock = some b ∨ w.heap.size ≤ b) :
    ∀ k, rfoot pw v' k → rfoot pw v k ∨ w.heap.size ≤ k := fun k hk => by
  rcases hk with hk | hk
  · exact .inl (.inl hk)
  · rcases hv k hk with h | h
    · exact .inl (.inr h)
    · exact .inr h

theorem foot_turn {w : World} {p : Nat} {g g' : Option Nat} (hg : g' = g ∨ ∃ b, g' = some b ∧ w.heap.size ≤ b) : ∀ k, foot p g' k → foot p g k ∨ w.heap.size ≤ k := fun k hk => by
  rcases hk with hk | hk
  · exact .inl (.inl hk)
  · rcases hg with rfl | ⟨b, rfl, hb⟩
    · exact .inl (.inr hk)
    · cases hk; exact .inr hb

/-- The chain turns first, the reference's behind it. -/
theorem SI.both {S S' : Nat → Prop} {w0 w w1 w2 : World} {p pw lo bound high low : Nat} {g g1 : Option Nat} {r r1 : List Int} {fr fr1 : Nat} {v v1 : Value} {L L1 : List Int} {st st1 : Bool} (h : SI w0 w p pw lo bound high low g r fr v L st)
    (hc : Ch w1 p g1 r1 fr1 bound high low L1 st1) (ho : Only S w w1) (hS : ∀ k, S k → foot p g k ∨ w.heap.size ≤ k) (hg : g1 = g ∨ ∃ b, g1 = some b ∧ w.heap.size ≤ b)
    (hr : Rc w2 lo pw v1 bound high low L1 st1) (ho2 : Only S' w1 w2) (hS2 : ∀ k, S' k → rfoot pw v k ∨ w1.heap.size ≤ k) (hv : ∀ b, v1.ownBlock = some b → v.ownBlock = some b ∨ w1.heap.size ≤ b) :
    SI w0 w2 p pw lo bound high low g1 r1 fr1 v1 L1 st1 := by
  have hs := h.own.size
  have hs1 := ho.size
  have hs2 := ho2.size
  have hf := foot_turn (p := p) hg
  have hl := h.lo_
  have hap : ∀ k, foot p g1 k → ¬ rfoot pw v k := fun k hk hr => by
    rcases hf k hk with hk | hk
    · exact h.apart k hk hr
    · have := h.rc.lt k hr; omega
  refine ⟨hc.only ho2 (fun k hk hs => ?_), hr, (h.own.trans ho (fun i _ hi => ?_)).trans ho2 (fun i _ hi => ?_), fun k hk hk2 => ?_, fun k hk => ?_, hl.1, by omega⟩
  · rcases hS2 k hs with hs | hs
    · exact hap k hk hs
    · have := hc.lt k hk; omega
  · rcases hS i hi with hi | hi
    · exact h.low_ i hi
    · omega
  · rcases hS2 i hi with hi | hi
    · have := (h.rc.lt i hi).1; omega
    · omega
  · rcases hk2 with hk2 | hk2
    · exact hap k hk (.inl hk2)
    · rcases hv k hk2 with hk2 | hk2
      · exact hap k hk (.inr hk2)
      · have := hc.lt k hk; omega
  · rcases hf k hk with hk | hk
    · exact h.low_ k hk
    · omega
end Go.Proofs.Ytpkaaadnolmidaa
