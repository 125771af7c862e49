/- TimersOrder. -/
import Derived.Test.YtbbihkddogbicaaLaws1
namespace Go.Proofs.Ytbbihkddogbicaa
open Go.RowKit
set_option linter.unusedVariables false
set_option linter.unusedSimpArgs false

def ats (ts : List Tm) : List Int := ts.map (·.at_)
theorem length_ats (ts : List Tm) : (ats ts).length = ts.length := by simp [ats]
theorem ats_get {ts : List Tm} {i : Nat} (h : i < ts.length) : (ats ts).getD i 0 = (nth_ ts i).at_ := by
  rw [nth_eq h]
  simp [ats, List.getD_eq_getElem?_getD, h]
def OrdK (ts : List Tm) : Prop := ∀ i, i < ts.length → (nth_ ts i).key = i ∧ (nth_ ts i).nth = i + 1
theorem OrdK.add {ts : List Tm} (h : OrdK ts) (used : List Nat) (at_ : Int) : OrdK (ts ++ [newOf ts used ts.length at_ ts.length]) := by
  intro i hi
  rw [List.length_append, List.length_singleton] at hi
  rw [nth_eq (by rw [List.length_append, List.length_singleton]; exact hi)]
  by_cases h1 : i < ts.length
  · rw [List.getElem_append_left h1, ← nth_eq h1]
    exact h i h1
  · have : i = ts.length := by omega
    subst this
    rw [List.getElem_append_right (Nat.le_refl _)]
    simp only [Nat.sub_self, List.getElem_singleton]
    exact ⟨rfl, rfl⟩
def dueN (now : Int) (ts : List Tm) : Nat := (ts.filter fun t => decide (t.at_ ≤ now)).length
theorem dueN_take (now : Int) (ts : List Tm) (j : Nat) (hj : j < ts.length) : dueN now (ts.take (j + 1)) = dueN now (ts.take j) + if (nth_ ts j).at_ ≤ now then 1 else 0 := by
  unfold dueN
  rw [List.take_succ_eq_append_getElem hj, List.filter_append, List.length_append, nth_eq hj]
  congr 1
  by_cases h : (ts[j]).at_ ≤ now
  · rw [if_pos h]; simp [h]
  · rw [if_neg h]; simp [h]
theorem dueN_le (now : Int) (ts : List Tm) : dueN now ts ≤ ts.length := List.length_filter_le _ _
theorem dueN_rest (now : Int) (ts : List Tm) : (ts.filter fun t => decide (now < t.at_)).length + dueN now ts = ts.length := by
  unfold dueN
  induction ts with
  | nil => rfl
  | cons t r ih =>
    by_cases h : t.at_ ≤ now
    · rw [List.filter_cons_of_neg (by simp; omega), List.filter_cons_of_pos (by simpa using h), List.length_cons, List.length_cons]
      omega
    · rw [List.filter_cons_of_pos (by simp; omega), List.filter_cons_of_neg (by simpa using h), List.length_cons, List.length_cons]
      omega
/-- What the keys of those that fired are. -/
structure KeyAt (ts : List Tm) (now : Int) (ks : List Int) (i k : Nat) : Prop where
  eq : ks.getD i 0 = k
  lt : k < ts.length
  due : (nth_ ts k).at_ ≤ now
def Fired (ts : List Tm) (now : Int) (ks : List Int) : Prop :=
  (∀ i, i < ks.length → ∃ k, KeyAt ts now ks i k) ∧
  ∀ i, i + 1 < ks.length → ∃ a b, KeyAt ts now ks i a ∧ KeyAt ts now ks (i + 1) b ∧ ((nth_ ts a).at_ < (nth_ ts b).at_ ∨ (nth_ ts a).at_ = (nth_ ts b).at_ ∧ a < b)
theorem OrdK.mem {ts : List Tm} (h : OrdK ts) {x : Tm} (hx : x ∈ ts) : ∃ k : Nat, x.key = k ∧ x.nth = k + 1 ∧ k < ts.length ∧ nth_ ts k = x := by
  obtain ⟨k, hk, e⟩ := List.getElem_of_mem hx
  have := h k hk
  rw [nth_eq hk, e] at this
  exact ⟨k, this.1, this.2, hk, by rw [nth_eq hk, e]⟩
theorem fired {most set : Nat} {ts : List Tm} {used : List Nat} (hk : OrdK ts) (ho : Ok most ts used set) (now : Int) :
    Fired ts now ((fire now ts).map (·.key)) ∧ ((fire now ts).map (·.key)).length = dueN now ts ∧ (stay now ts).length = ts.length - dueN now ts := by
  obtain ⟨h1, h2, h3⟩ := ho.stay_eq now
  have at' : ∀ (i : Nat) (hi : i < (fire now ts).length), ∃ k : Nat, (fire now ts)[i].key = k ∧ (fire now ts)[i].nth = k + 1 ∧ KeyAt ts now ((fire now ts).map (·.key)) i k ∧ nth_ ts k = (fire now ts)[i] := fun i hi => by
    have hm := List.mem_filter.1 (h2.subset (List.getElem_mem hi))
    obtain ⟨k, e1, e2, e3, e4⟩ := hk.mem hm.1
    refine ⟨k, e1, e2, ⟨?_, e3, ?_⟩, e4⟩
    · simp [List.getD_eq_getElem?_getD, hi, e1]
    · rw [e4]; simpa using hm.2
  refine ⟨⟨fun i hi => ?_, fun i hi => ?_⟩, ?_, ?_⟩
  · rw [List.length_map] at hi
    obtain ⟨k, _, _, h, _⟩ := at' i hi
    exact ⟨k, h⟩
  · rw [List.length_map] at hi
    obtain ⟨a, _, a2, a3, a4⟩ := at' i (by omega)
    obtain ⟨b, _, b2, b3, b4⟩ := at' (i + 1) hi
    refine ⟨a, b, a3, b3, ?_⟩
    have hlt := List.pairwise_iff_getElem.1 h3 i (i + 1) (by omega) hi (by omega)
    rw [a4, b4]
    unfold lt at hlt
    omega
  · rw [List.length_map, h2.length_eq]
    rfl
  · rw [h1]
    have := dueN_rest now ts
    omega

section
variable {w0 w : World} {p : Nat} {v : Value} {ts : List Tm}
def OrdI (w0 w : World) (p : Nat) (v : Value) (ts : List Tm) : Prop := (∃ used, SM w0 w p 4096 ts used ts.length v (ats ts)) ∧ OrdK ts
/-- Set, the row not yet appended to. -/
def OrdJ (w0 w : World) (p : Nat) (v : Value) (ts : List Tm) (at_ : Int) : Prop := ∃ used, SM w0 w p 4096 (ts ++ [newOf ts used ts.length at_ ts.length]) (usedOf ts used) (ts.length + 1) v (ats ts) ∧ OrdK ts
theorem OrdI.below (h : OrdI w0 w p v ts) : Below w0.heap.size w0 w := by obtain ⟨⟨used, h⟩, _⟩ := h; exact h.below
theorem OrdI.irow (h : OrdI w0 w p v ts) : IRow w v (ats ts) := by obtain ⟨⟨used, h⟩, _⟩ := h; exact h.irow
theorem OrdI.len (h : OrdI w0 w p v ts) : ts.length ≤ 4096 := by obtain ⟨⟨used, h⟩, _⟩ := h; have := h.ok.len; omega
theorem OrdJ.row {at_ : Int} (h : OrdJ w0 w p v ts at_) : w.ownsRow w0.heap.size 3 1 v ts.length (ints (ats ts)) := by
  obtain ⟨used, h, _⟩ := h
  have := h.row
  rwa [length_ats] at this
theorem OrdJ.size {at_ : Int} (h : OrdJ w0 w p v ts at_) : w0.heap.size ≤ w.heap.size := by obtain ⟨used, h, _⟩ := h; exact h.size
theorem ord_set (h : OrdI w0 w p v ts) {at_ : Int} (ha : 0 ≤ at_ ∧ at_ ≤ 4611686018427387904) (hn : ts.length < 4096) :
    Calls Try.prog 11 #[.pointer (some ⟨p, 0, none⟩), .int .i64 at_, .int .i64 ts.length] w fun e w' => ∃ r, e = .returned (.tuple #[.int .i64 r, .int .i64 0]) ∧ OrdJ w0 w' p v ts at_ := by
  obtain ⟨⟨used, h⟩, hk⟩ := h
  refine (sm_set h (key := ts.length) ha hn (by omega)).mono ?_
  rintro e w' ⟨rfl, hS⟩
  exact ⟨_, rfl, used, hS, hk⟩
theorem OrdJ.app {o : Obj} {w2 : World} {v2 : Value} {at_ : Int} (h : OrdJ w0 w p v ts at_) (hown : w2.ownsRow w0.heap.size 3 1 v2 (ts.length + 1) (ints (ats ts) ++ [.int .i64 at_]))
    (hon : Only (fun k => v.ownBlock = some k) (w.alloc o) w2) (hat : v2.ownBlock = v.ownBlock ∨ v2.ownBlock = some (w.heap.size + 1)) : ∃ ts', ts'.length = ts.length + 1 ∧ OrdI w0 w2 p v2 ts' := by
  obtain ⟨used, h, hk⟩ := h
  have := h.app (x := at_) (by rw [length_ats]; exact hown) hon hat
  refine ⟨ts ++ [newOf ts used ts.length at_ ts.length], by simp, ⟨usedOf ts used, ?_⟩, hk.add used at_⟩
  rw [List.length_append, List.length_singleton]
  show SM _ _ _ _ _ _ _ _ (ats (ts ++ _))
  unfold ats at this ⊢
  rw [List.map_append]
  exact this
structure Shot (w0 w : World) (p : Nat) (v r : Value) (ts : List Tm) (now : Int) (ks : List Int) : Prop where
  sm : ∃ used set ts', ts'.length = ts.length - dueN now ts ∧ SM w0 w p 4096 ts' used set v (ats ts)
  row : IRow w r ks
  len : ks.length = dueN now ts
  keys : Fired ts now ks
theorem ord_fire (h : OrdI w0 w p v ts) (now : Int) :
    Calls Try.prog 18 #[.pointer (some ⟨p, 0, none⟩), .int .i64 now] w fun e w' => ∃ r ks, e = .returned r ∧ Shot w0 w' p v r ts now ks := by
  obtain ⟨⟨used, h⟩, hk⟩ := h
  obtain ⟨f1, f2, f3⟩ := fired hk h.ok now
  refine (sm_fire h now).mono ?_
  rintro e w' ⟨r, rfl, hr, hS⟩
  exact ⟨r, _, rfl, ⟨_, _, _, f3, hS⟩, hr, f2, f1⟩
theorem Shot.only {w' : World} {r : Value} {now : Int} {ks : List Int} (h : Shot w0 w p v r ts now ks) (ho : Only (fun _ => False) w w') : Shot w0 w' p v r ts now ks := by
  obtain ⟨⟨used, set, ts', e, h1⟩, h2, h3, h4⟩ := h
  exact ⟨⟨used, set, ts', e, h1.only ho⟩, h2.only ho, h3, h4⟩
theorem Shot.irow {r : Value} {now : Int} {ks : List Int} (h : Shot w0 w p v r ts now ks) : IRow w v (ats ts) := by
  obtain ⟨⟨used, set, ts', e, h1⟩, h2, h3, h4⟩ := h
  exact h1.irow
theorem Shot.below {r : Value} {now : Int} {ks : List Int} (h : Shot w0 w p v r ts now ks) : Below w0.heap.size w0 w := by
  obtain ⟨⟨used, set, ts', e, h1⟩, h2, h3, h4⟩ := h
  exact h1.below
theorem ord_len {r : Value} {now : Int} {ks : List Int} (h : Shot w0 w p v r ts now ks) : Calls Try.prog 22 #[.pointer (some ⟨p, 0, none⟩)] w fun e w' => e = .returned (.int .i64 ((ts.length : Int) - dueN now ts)) ∧ w = w' := by
  obtain ⟨⟨used, set, ts', e, h1⟩, h2, h3, h4⟩ := h
  have hl := dueN_le now ts
  rw [show (ts.length : Int) - dueN now ts = (ts'.length : Int) by omega]
  exact sm_len h1
end

/-- A row's cell. -/
theorem IRow.at_ {w : World} {v : Value} {l : List Int} (h : IRow w v l) {ao : Option Addr} {n cap : Nat} (hv : v = .slice ao n cap) {i : Nat} (hi : i < l.length) :
    ∃ g, ao = some ⟨g, 0, none⟩ ∧ n = l.length ∧ ∀ j, j < l.length → w.cell? ⟨g, j, none⟩ = some (.int .i64 (l.getD j 0)) := by
  obtain ⟨ao', cap', e, _, _, h3⟩ := h
  rw [hv] at e
  injection e with e1 e2 e3
  obtain ⟨g, e4, _, hc⟩ := h3 (by omega)
  exact ⟨g, e1.trans e4, e2, hc⟩
end Go.Proofs.Ytbbihkddogbicaa
