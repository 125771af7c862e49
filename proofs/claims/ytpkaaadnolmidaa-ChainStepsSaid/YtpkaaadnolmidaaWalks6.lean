/- chain.Put. -/
import Derived.Test.YtpkaaadnolmidaaWalks5
namespace Go.Proofs.Ytpkaaadnolmidaa
open Go.RowKit
set_option linter.unusedVariables false

/-- Bytes that are read: M, from where ad leads. -/
structure Src (w : World) (ad : Option Addr) (cap : Nat) (M : List Int) : Prop where
  le : M.length ≤ cap
  max : cap ≤ 9223372036854775807
  at_ : 0 < M.length → ∃ gb off, ad = some ⟨gb, off, none⟩ ∧ gb < w.heap.size ∧ ∀ j, j < M.length → w.cell? ⟨gb, off + j, none⟩ = some (.int .u8 (M.getD j 0))

theorem Src.only {S : Nat → Prop} {w w' : World} {ad : Option Addr} {cap : Nat} {M : List Int} (h : Src w ad cap M) (ho : Only S w w') (hd : ∀ gb off, ad = some ⟨gb, off, none⟩ → ¬ S gb) : Src w' ad cap M :=
  ⟨h.le, h.max, fun h0 => by
    obtain ⟨gb, off, e, hl, hc⟩ := h.at_ h0
    exact ⟨gb, off, e, Nat.lt_of_lt_of_le hl ho.size, fun j hj => (World.cell?_of_block (a := ⟨gb, off + j, none⟩) (ho.block gb hl (hd gb off e))).trans (hc j hj)⟩⟩

/-- The pieces of what is read. -/
theorem srcs {w : World} {gb off : Nat} {M : List Int} (hc : ∀ j, j < M.length → w.cell? ⟨gb, off + j, none⟩ = some (.int .u8 (M.getD j 0))) (a m : Nat) :
    ∀ j v, (bytes ((M.drop a).take m))[j]? = some v → w.cell? ((⟨gb, off + a, none⟩ : Addr).add j) = some v := by
  intro j v hv
  have hb := bytes_length ((M.drop a).take m)
  have hj : j < ((M.drop a).take m).length := by
    have := (List.getElem?_eq_some_iff.1 hv).1
    omega
  rw [bytes_get _ _ hj] at hv
  simp only [List.length_take, List.length_drop] at hj
  rw [Go.WideShapes.add_plain, Nat.add_assoc, hc (a + j) (by omega), ← hv, getD_take _ _ _ (by omega), getD_drop]

/-- What Put lays into the ring. -/
theorem put_pure {r L M : List Int} {fr at_ k m : Nat} (hfr : fr < r.length) (hk : k ≤ M.length) (hfit : L.length + k ≤ r.length) (hk1 : 1 ≤ k) (hat_ : at_ = (fr + L.length) % r.length) (hm : m = min k (r.length - at_))
    (hat : ∀ i, i < L.length → r.getD ((fr + i) % r.length) 0 = L.getD i 0) :
    (splice (splice r at_ ((M.drop 0).take m)) 0 ((M.drop m).take (k - m))).length = r.length ∧
    ∀ i, i < (L ++ M.take k).length → (splice (splice r at_ ((M.drop 0).take m)) 0 ((M.drop m).take (k - m))).getD ((fr + i) % r.length) 0 = (L ++ M.take k).getD i 0 := by
  have ha : (fr + L.length < r.length ∧ at_ = fr + L.length) ∨ (r.length ≤ fr + L.length ∧ at_ = fr + L.length - r.length) := by
    rw [hat_, mod_two (by omega)]
    by_cases h : fr + L.length < r.length
    · exact .inl ⟨h, if_pos h⟩
    · exact .inr ⟨by omega, if_neg h⟩
  have ha1 : at_ < r.length := by omega
  have l1 : ((M.drop 0).take m).length = m := by simp only [List.length_take, List.length_drop]; omega
  have l2 : ((M.drop m).take (k - m)).length = k - m := by simp only [List.length_take, List.length_drop]; omega
  have l3 : (splice r at_ ((M.drop 0).take m)).length = r.length := length_splice _ _ _ (by rw [l1]; omega)
  have l4 : (splice (splice r at_ ((M.drop 0).take m)) 0 ((M.drop m).take (k - m))).length = r.length := by rw [length_splice _ _ _ (by rw [l3, l2]; omega), l3]
  refine ⟨l4, fun i hi => ?_⟩
  rw [List.length_append, List.length_take, Nat.min_eq_left hk] at hi
  obtain ⟨x, hx⟩ : ∃ x, x = (fr + i) % r.length := ⟨_, rfl⟩
  have hx2 : (fr + i < r.length ∧ x = fr + i) ∨ (r.length ≤ fr + i ∧ x = fr + i - r.length) := by
    rw [hx, mod_two (by omega)]
    by_cases h : fr + i < r.length
    · exact .inl ⟨h, if_pos h⟩
    · exact .inr ⟨by omega, if_neg h⟩
  rw [← hx, splice_getD _ _ _ _ (by rw [l3, l2]; omega), splice_getD _ _ _ _ (by rw [l1]; omega), l1, l2, getD_append]
  by_cases hiL : i < L.length
  · rw [if_pos hiL, ← hat i hiL, ← hx]
    have n1 : ¬ (0 ≤ x ∧ x < 0 + (k - m)) := by omega
    have n2 : ¬ (at_ ≤ x ∧ x < at_ + m) := by omega
    rw [if_neg n1, if_neg n2]
  · rw [if_neg hiL, getD_take M k (i - L.length) (by omega)]
    by_cases him : i - L.length < m
    · have n1 : ¬ (0 ≤ x ∧ x < 0 + (k - m)) := by omega
      have n2 : at_ ≤ x ∧ x < at_ + m := by omega
      rw [if_neg n1, if_pos n2, getD_take _ _ _ (by omega), getD_drop]
      congr 1
      omega
    · have n1 : 0 ≤ x ∧ x < 0 + (k - m) := by omega
      rw [if_pos n1, Nat.sub_zero, getD_take _ _ _ (by omega), getD_drop]
      congr 1
      omega

/-- Is a chain stopped, behind a Put of k bytes? -/
def putStop (high k : Nat) (L : List Int) (stop : Bool) : Bool := if k = 0 then stop else stop || decide (high ≤ L.length)

def PutPost (w w' : World) (p : Nat) (g : Option Nat) (bound high low : Nat) (L : List Int) (stop : Bool) : Prop :=
  ∃ g' r' fr', Ch w' p g' r' fr' bound high low L stop ∧ Only (foot p g) w w' ∧ (g' = g ∨ ∃ b, g' = some b ∧ w.heap.size ≤ b)

section
variable {w : World} {p : Nat} {g : Option Nat} {r : List Int} {fr bound high low : Nat} {L : List Int} {stop : Bool}

theorem grow_any (h : Ch w p g r fr bound high low L stop) (size : Nat) (hL : L.length ≤ size) (hb : size ≤ bound) :
    Calls Try.prog 23 #[.pointer (some ⟨p, 0, none⟩), .int .i64 size] w fun e w' => e = .returned (.tuple #[]) ∧ GrowPost w w' p g bound high low size L stop := by
  by_cases hs : size ≤ r.length
  · refine (grow_less h size hs).mono ?_
    rintro e w' ⟨rfl, rfl⟩
    exact ⟨rfl, g, r, fr, h, hs, Only.refl _ _, .inl rfl⟩
  · exact grow_more h size _ (by omega) hb rfl

theorem put_zero (h : Ch w p g r fr bound high low L stop) (ad : Option Addr) (cap : Nat) (M : List Int) (hz : min M.length (bound - L.length) = 0) :
    Calls Try.prog 11 #[.pointer (some ⟨p, 0, none⟩), .slice ad M.length cap] w fun e w' => e = .returned (.int .i64 0) ∧ Drawn w w' := by
  have h1 := h.fit
  have h2 := h.max
  have h3 := h.most
  have H := Lib.hid h
  clear h
  have hc : (M.length = 0) ∨ (0 < M.length ∧ bound = L.length) := by omega
  rcases hc with hc | ⟨hc, hc2⟩
  · have HC := Lib.hid hc
    rw [hc]
    clear hc hz
    go_enter Try.func11, Try.ntmps11
    go_wp2_with (first
      | (go_at_call 21; (with_reducible refine (room_any H.out).mono ?_); rintro e w' ⟨rfl, n1, rfl⟩))
    all_goals
      go_ret
      exact ⟨rfl, Drawn.of _ _⟩
  · have hr : (bound : Int) - L.length = 0 := by omega
    have HC := Lib.hid hr
    clear hr hz hc2
    go_enter Try.func11, Try.ntmps11
    go_wp2_with (first
      | (go_at_call 21; (with_reducible refine (room_any H.out).mono ?_); rintro e w' ⟨rfl, n1, rfl⟩; rw [HC.out]))
    all_goals
      go_ret
      exact ⟨rfl, Drawn.of _ _⟩
end
end Go.Proofs.Ytpkaaadnolmidaa
