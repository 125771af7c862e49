/- What comes in: a pool's numbers, a slice of steps {Kind, Now, Who int}. -/
import Derived.Test.YtmpcffkandmacaaRows
import Derived.Test.YtmpcffkandmacaaPlain3
import Derived.WalkKit
import Derived.ProofKit
import Derived.OpenShut
import Derived.ChangeSame
import Derived.Deep.Slices
import Derived.Deep.Fields
namespace Go.Proofs.Ytmpcffkandmacaa
open Go.ChangeShapes Go.WideShapes Go.ChangeAt Go.RowKit Go.Deep
set_option linter.unusedVariables false
set_option linter.unusedSimpArgs false

section
variable {H : Type} {enc : TypeId × Value → H} {P : Program} {w : World} {base : Nat} {spare : Nat → Bool} {held : Bool}
theorem open_slice_fields {t e : TypeId} {fs : Array Field} {fuel : Nat} {cs : List Value} {x : DataW H × List MemPlace} (ht : P.underlying t = some (.slice e)) (he : P.underlying e = some (.struct fs))
    (hone : oneCellFields P fs = true) (hC : P.cellsOf e = fs.size) (h : DataW.trod enc P w base spare held fuel t cs = some x) :
    (cs = [.slice none 0 0] ∧ x = (.nil, [])) ∨
    ∃ (a : Addr) (len cap m : Nat) (D : Nat → DataW H) (Pl : Nat → List MemPlace), cs = [.slice (some a) len cap] ∧ base ≤ a.block ∧ len ≤ cap ∧ cap ≤ maxLen ∧ m = (if spare a.block then cap else len) ∧
      x = (.slice ((List.range len).map D) ((List.range (m - len)).map fun j => D (len + j)), MemPlace.row a (m * fs.size) ++ (List.range m).flatMap Pl) ∧
      ∀ i, i < m → ∃ (ys : List (DataW H × List MemPlace)) (n : Nat), D i = .agg (ys.map (·.1)) ∧ Pl i = ys.flatMap (·.2) ∧ ys.length = fs.size ∧
        ∀ (j : Nat) (f : Field), fs[j]? = some f → ∃ (v : Value) (y : DataW H × List MemPlace), w.cell? (a.add (i * fs.size + j)) = some v ∧ ys[j]? = some y ∧ DataW.trod enc P w base spare held n f.type [v] = some y := by
  rcases open_slice ht h with h0 | ⟨a, len, cap, m, n, D, Pl, hcs, hb, hl, hm, hmm, hx, hi⟩
  · exact .inl h0
  · refine .inr ⟨a, len, cap, m, D, Pl, hcs, hb, hl, hm, hmm, by rw [hC] at hx; exact hx, fun i him => ?_⟩
    obtain ⟨cs', hc, ht'⟩ := hi i him
    rw [hC] at hc
    obtain ⟨ys, n', hn', hy, hlen, hyl, hf⟩ := DataW.trod_struct he ht'
    obtain ⟨_, hcl, hat⟩ := World.cells?_some hc
    simp only [Prod.mk.injEq] at hy
    refine ⟨ys, n', hy.1, hy.2, hyl, fun j f hj => ?_⟩
    obtain ⟨ho, hk⟩ := hone_of hone j f hj
    have hjl : j < fs.size := (Array.getElem?_eq_some_iff.1 hj).1
    have hcell := hat j hjl
    have hv : cs'[j]? = some (cs'[j]'(by omega)) := List.getElem?_eq_getElem (by omega)
    have h1 := hf j f hj
    rw [ho, hk] at h1
    have hone' : (cs'.drop j).take 1 = [cs'[j]'(by omega)] := by
      rw [List.drop_eq_getElem_cons (by omega)]
      rfl
    rw [hone'] at h1
    have hys : ys[j]? = some (ys[j]'(by omega)) := List.getElem?_eq_getElem (by omega)
    refine ⟨_, _, ?_, hys, h1.trans hys⟩
    rw [← Go.Deep.add_add, hcell, hv]
end

/-- The steps, as the walk takes them. -/
structure Steps (w : World) (a : Option Addr) (len : Nat) : Prop where
  max : len ≤ 9223372036854775807
  at_ : 0 < len → ∃ b off, a = some ⟨b, off, none⟩ ∧ b < w.heap.size ∧ ∀ i, i < len → ∃ (k n d : Int),
    w.cell? ⟨b, off + i * 3, none⟩ = some (.int .i64 k) ∧ w.cell? ⟨b, off + i * 3 + 1, none⟩ = some (.int .i64 n) ∧ w.cell? ⟨b, off + i * 3 + 2, none⟩ = some (.int .i64 d)

theorem cells47 : Try.prog.cellsOf 47 = 3 := by kernel_rfl

theorem steps_of {H : Type} {enc : TypeId × Value → H} {W : World} {a : Option Addr} {len cap : Nat} {d : DataW H} {p : List MemPlace}
    (h : DataW.Trod enc Try.prog W 0 (fun _ => true) true 45 (.slice a len cap) d p) : Steps W a len := by
  obtain ⟨fuel, hf⟩ := h
  rcases open_slice_fields Try.underlying45 Try.underlying47 (by kernel_rfl) cells47 hf with ⟨hcs, hx⟩ | ⟨x, l, c, m, D, Pl, hcs, _, hl, hm, hmm, hx, hi⟩
  · simp [Value.cells] at hcs
    obtain ⟨rfl, rfl, rfl⟩ := hcs
    exact ⟨by decide, fun h => absurd h (by decide)⟩
  · simp [Value.cells] at hcs
    obtain ⟨rfl, rfl, rfl⟩ := hcs
    have hmc : m = cap := by simpa using hmm
    refine ⟨by unfold maxLen at hm; omega, fun h0 => ?_⟩
    have get : ∀ i, i < len → ∃ (k n d : Int),
        W.cell? (x.add (i * 3)) = some (.int .i64 k) ∧ W.cell? (x.add (i * 3 + 1)) = some (.int .i64 n) ∧ W.cell? (x.add (i * 3 + 2)) = some (.int .i64 d) := by
      intro i hil
      obtain ⟨ys, n, _, _, _, hfs⟩ := hi i (by omega)
      obtain ⟨v0, y0, hc0, _, ht0⟩ := hfs 0 _ rfl
      obtain ⟨v1, y1, hc1, _, ht1⟩ := hfs 1 _ rfl
      obtain ⟨v2, y2, hc2, _, ht2⟩ := hfs 2 _ rfl
      obtain ⟨i0, e0, -, -⟩ := DataW.trod_int Try.underlying3 ht0
      obtain ⟨i1, e1, -, -⟩ := DataW.trod_int Try.underlying3 ht1
      obtain ⟨i2, e2, -, -⟩ := DataW.trod_int Try.underlying3 ht2
      simp at e0 e1 e2
      subst e0 e1 e2
      exact ⟨i0, i1, i2, hc0, hc1, hc2⟩
    obtain ⟨b, off, spot⟩ := x
    obtain ⟨_, _, _, g0, _⟩ := get 0 h0
    have hspot : spot = none := by simpa [Addr.add] using World.cell?_spot g0
    subst hspot
    refine ⟨b, off, rfl, ?_, fun i hil => ?_⟩
    · rw [Go.WideShapes.add_plain] at g0
      exact block_lt_of_cell g0
    · obtain ⟨k, n, d, h1, h2, h3⟩ := get i hil
      rw [Go.WideShapes.add_plain] at h1 h2 h3
      exact ⟨k, n, d, h1, by rw [Nat.add_assoc]; exact h2, by rw [Nat.add_assoc]; exact h3⟩

abbrev askV (a b c d : Int) : Value := .agg #[.int .i64 a, .int .i64 b, .int .i64 c, .int .i64 d]
theorem cells44 : Try.prog.cellsOf 44 = 4 := by kernel_rfl
set_option maxRecDepth 100000 in
theorem asked_of {H : Type} {enc : TypeId × Value → H} {W : World} {r : Reach} {b0 : Nat} {v : Value} {d : DataW H} {p : List MemPlace} (hv : Value.okWide Try.prog W r b0 44 v)
    (h : DataW.Trod enc Try.prog W 0 (fun _ => true) true 44 v d p) : ∃ (a b c d : Int), v = askV a b c d := by
  obtain ⟨cs, rfl, hsz⟩ := okWide_struct Try.underlying44 hv
  rw [cells44] at hsz
  obtain ⟨cs⟩ := cs
  match cs, hsz with
  | [v0, v1, v2, v3], _ =>
    obtain ⟨fuel, hf⟩ := h
    obtain ⟨xs, n, -, -, -, hl, hfs⟩ := DataW.trod_struct Try.underlying44 hf
    have one3 : Try.prog.cellsOf 3 = 1 := by kernel_rfl
    have hx : ∀ i, i < 4 → ∃ y, xs[i]? = some y := fun i hi => ⟨_, List.getElem?_eq_getElem (by rw [hl]; exact hi)⟩
    obtain ⟨y0, h0⟩ := hx 0 (by decide)
    obtain ⟨y1, h1⟩ := hx 1 (by decide)
    obtain ⟨y2, h2⟩ := hx 2 (by decide)
    obtain ⟨y3, h3⟩ := hx 3 (by decide)
    have t0 : DataW.trod enc Try.prog W 0 (fun _ => true) true n 3 [v0] = some y0 := by
      have h := (hfs 0 _ rfl).trans h0
      change DataW.trod enc Try.prog W 0 (fun _ => true) true n 3 (List.take (Try.prog.cellsOf 3) [v0, v1, v2, v3]) = some y0 at h
      rw [one3] at h
      exact h
    have t1 : DataW.trod enc Try.prog W 0 (fun _ => true) true n 3 [v1] = some y1 := by
      have h := (hfs 1 _ rfl).trans h1
      change DataW.trod enc Try.prog W 0 (fun _ => true) true n 3 (List.take (Try.prog.cellsOf 3) [v1, v2, v3]) = some y1 at h
      rw [one3] at h
      exact h
    have t2 : DataW.trod enc Try.prog W 0 (fun _ => true) true n 3 [v2] = some y2 := by
      have h := (hfs 2 _ rfl).trans h2
      change DataW.trod enc Try.prog W 0 (fun _ => true) true n 3 (List.take (Try.prog.cellsOf 3) [v2, v3]) = some y2 at h
      rw [one3] at h
      exact h
    have t3 : DataW.trod enc Try.prog W 0 (fun _ => true) true n 3 [v3] = some y3 := by
      have h := (hfs 3 _ rfl).trans h3
      change DataW.trod enc Try.prog W 0 (fun _ => true) true n 3 (List.take (Try.prog.cellsOf 3) [v3]) = some y3 at h
      rw [one3] at h
      exact h
    obtain ⟨i0, e0, -, -⟩ := DataW.trod_int Try.underlying3 t0
    obtain ⟨i1, e1, -, -⟩ := DataW.trod_int Try.underlying3 t1
    obtain ⟨i2, e2, -, -⟩ := DataW.trod_int Try.underlying3 t2
    obtain ⟨i3, e3, -, -⟩ := DataW.trod_int Try.underlying3 t3
    simp at e0 e1 e2 e3
    subst e0 e1 e2 e3
    exact ⟨i0, i1, i2, i3, rfl⟩
end Go.Proofs.Ytmpcffkandmacaa
