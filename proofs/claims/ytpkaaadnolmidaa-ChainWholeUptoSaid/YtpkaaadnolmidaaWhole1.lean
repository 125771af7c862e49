/- ChainWhole: the loop's relation, and what a round does to it. -/
import Derived.Test.YtpkaaadnolmidaaSteps
import Derived.Test.YtpkaaadnolmidaaJoined1
namespace Go.Proofs.Ytpkaaadnolmidaa
open Go.RowKit
set_option linter.unusedVariables false

/-- Ahead of a round: what was put is what was taken and what the chain has; whose is which block. -/
structure WI (w0 w : World) (p base bound high low : Nat) (vP vT : Value) (g : Option Nat) (r : List Int) (fr : Nat) (L P T : List Int) (st : Bool) : Prop where
  ch : Ch w p g r fr bound high low L st
  put : Own w base vP P
  taken : Own w base vT T
  all : P = T ++ L
  own : Only (fun k => w0.heap.size ≤ k) w0 w
  box : Blk w w0.heap.size [.int .i64 bound, .int .i64 high, .int .i64 low] 23
  apart : ∀ b, vP.ownBlock = some b → vT.ownBlock ≠ some b
  farP : ∀ b, vP.ownBlock = some b → ¬ foot p g b
  farT : ∀ b, vT.ownBlock = some b → ¬ foot p g b
  low_ : ∀ k, foot p g k → w0.heap.size < k
  base_ : w0.heap.size < base ∧ base ≤ w.heap.size

/-- Only blocks that were not there turn. -/
theorem WI.far {S : Nat → Prop} {w0 w w' : World} {p base bound high low : Nat} {vP vT : Value} {g : Option Nat} {r : List Int} {fr : Nat} {L P T : List Int} {st : Bool} (h : WI w0 w p base bound high low vP vT g r fr L P T st)
    (ho : Only S w w') (hd : ∀ k, S k → w.heap.size ≤ k) : WI w0 w' p base bound high low vP vT g r fr L P T st :=
  have hs := h.own.size
  ⟨h.ch.only ho (fun k hk hS => by have := h.ch.lt k hk; have := hd k hS; omega), owns_only h.put ho (fun k hk hS => by have := ownsRow_lt h.put k hk; have := hd k hS; omega),
    owns_only h.taken ho (fun k hk hS => by have := ownsRow_lt h.taken k hk; have := hd k hS; omega), h.all, h.own.trans ho (fun i _ hS => by have := hd i hS; omega),
    h.box.only ho (fun hS => by have := hd _ hS; have := h.base_; omega), h.apart, h.farP, h.farT, h.low_, h.base_.1, Nat.le_trans h.base_.2 ho.size⟩

/-- Put, and then the row that remembers it. -/
theorem WI.putAll {w0 w w1 w2 : World} {p base bound high low k : Nat} {vP vT vP' : Value} {g g1 : Option Nat} {r r1 : List Int} {fr fr1 : Nat} {L P T B : List Int} {st st1 : Bool} (h : WI w0 w p base bound high low vP vT g r fr L P T st)
    (hc : Ch w1 p g1 r1 fr1 bound high low (L ++ B.take k) st1) (ho : Only (foot p g) w w1) (hg : g1 = g ∨ ∃ b, g1 = some b ∧ w.heap.size ≤ b)
    (hown : Own w2 base vP' (P ++ B.take k)) (ho2 : Only (fun i => vP.ownBlock = some i) w1 w2) (hv : vP'.ownBlock = vP.ownBlock ∨ vP'.ownBlock = some w1.heap.size) :
    WI w0 w2 p base bound high low vP' vT g1 r1 fr1 (L ++ B.take k) (P ++ B.take k) T st1 := by
  have hs := h.own.size
  have hs1 := ho.size
  have hs2 := ho2.size
  have hb := h.base_
  have hfoot : ∀ b, foot p g1 b → foot p g b ∨ w.heap.size ≤ b := fun b hb => by
    rcases hb with hb | hb
    · exact .inl (.inl hb)
    · rcases hg with rfl | ⟨x, rfl, hx⟩
      · exact .inl (.inr hb)
      · cases hb; exact .inr hx
  have hP1 : ∀ b, vP.ownBlock = some b → ¬ foot p g1 b := fun b hvb hf => by
    have := ownsRow_lt h.put b hvb
    rcases hfoot b hf with hf | hf
    · exact h.farP b hvb hf
    · omega
  have hT1 : ∀ b, vT.ownBlock = some b → ¬ foot p g1 b := fun b hvb hf => by
    have := ownsRow_lt h.taken b hvb
    rcases hfoot b hf with hf | hf
    · exact h.farT b hvb hf
    · omega
  have hvx : ∀ b, vP'.ownBlock = some b → vP.ownBlock = some b ∨ b = w1.heap.size := fun b hb => by
    rcases hv with hv | hv
    · rw [hv] at hb; exact .inl hb
    · rw [hv] at hb; injection hb with hb; exact .inr hb.symm
  refine ⟨hc.only ho2 (fun k hk hS => hP1 k hS hk), hown, owns_only (owns_only h.taken ho (fun k hk hS => h.farT k hk hS)) ho2 (fun k hk hS => h.apart k hS hk), by rw [h.all, List.append_assoc], ?_, ?_, ?_, ?_, hT1, ?_, hb.1, by omega⟩
  · refine (h.own.trans ho (fun i _ hi => Nat.le_of_lt (h.low_ i hi))).trans ho2 (fun i _ hi => ?_)
    have := ownsRow_lt h.put i hi
    omega
  · refine (h.box.only ho (fun hS => by have := h.low_ _ hS; omega)).only ho2 (fun hS => by have := ownsRow_lt h.put _ hS; omega)
  · intro b hb2 hT
    have := ownsRow_lt h.taken b hT
    rcases hvx b hb2 with hx | hx
    · exact h.apart b hx hT
    · omega
  · intro b hb2 hf
    rcases hvx b hb2 with hx | hx
    · exact hP1 b hx hf
    · have := hc.lt b hf; omega
  · intro k hk
    rcases hfoot k hk with hf | hf
    · exact h.low_ k hf
    · omega

/-- Take, and then the row that remembers it. -/
theorem WI.takeAll {w0 w w1 w2 : World} {p base bound high low q : Nat} {vP vT vT' : Value} {g : Option Nat} {r : List Int} {fr fr1 : Nat} {L P T : List Int} {st st1 : Bool} (h : WI w0 w p base bound high low vP vT g r fr L P T st)
    (hc : Ch w1 p g r fr1 bound high low (L.drop q) st1) (ho : Only (fun k => k = p) w w1)
    (hown : Own w2 base vT' (T ++ L.take q)) (ho2 : Only (fun i => vT.ownBlock = some i) w1 w2) (hv : vT'.ownBlock = vT.ownBlock ∨ vT'.ownBlock = some w1.heap.size) :
    WI w0 w2 p base bound high low vP vT' g r fr1 (L.drop q) P (T ++ L.take q) st1 := by
  have hs := h.own.size
  have hs1 := ho.size
  have hs2 := ho2.size
  have hb := h.base_
  have hpf : foot p g p := .inl rfl
  have hvx : ∀ b, vT'.ownBlock = some b → vT.ownBlock = some b ∨ b = w1.heap.size := fun b hb => by
    rcases hv with hv | hv
    · rw [hv] at hb; exact .inl hb
    · rw [hv] at hb; injection hb with hb; exact .inr hb.symm
  refine ⟨hc.only ho2 (fun k hk hS => h.farT k hS hk), owns_only (owns_only h.put ho (fun k hk hS => h.farP k hk (by rw [hS]; exact hpf))) ho2 (fun k hk hS => h.apart k hk hS), hown, by rw [h.all, List.append_assoc, List.take_append_drop], ?_, ?_, ?_, h.farP, ?_, h.low_, hb.1, by omega⟩
  · refine (h.own.trans ho (fun i _ hi => by rw [hi]; exact Nat.le_of_lt (h.low_ p hpf))).trans ho2 (fun i _ hi => ?_)
    have := ownsRow_lt h.taken i hi
    omega
  · refine (h.box.only ho (fun hS => by have := h.low_ p hpf; omega)).only ho2 (fun hS => by have := ownsRow_lt h.taken _ hS; omega)
  · intro b hP hb2
    have := ownsRow_lt h.put b hP
    rcases hvx b hb2 with hx | hx
    · exact h.apart b hP hx
    · omega
  · intro b hb2 hf
    rcases hvx b hb2 with hx | hx
    · exact h.farT b hx hf
    · have := hc.lt b hf; omega
end Go.Proofs.Ytpkaaadnolmidaa
