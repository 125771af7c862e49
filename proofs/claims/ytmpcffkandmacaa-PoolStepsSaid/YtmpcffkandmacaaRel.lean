/- The program's pool and the reference's list of what rests. -/
import Derived.Test.YtmpcffkandmacaaGWalks2
import Derived.Test.YtmpcffkandmacaaOwn
namespace Go.Proofs.Ytmpcffkandmacaa
open Go.RowKit
set_option linter.unusedVariables false
set_option linter.unusedSimpArgs false

theorem rmv_cons (x : Nat) (R : List Nat) (n : Int) : rmv (x :: R) n = if (x : Int) = n then R else x :: rmv R n := by
  unfold rmv
  rw [List.findIdx?_cons]
  by_cases h : (x : Int) = n
  · simp [h]
  · have hd : decide ((x : Int) = n) = false := decide_eq_false h
    rw [hd, if_neg h]
    simp only [Bool.false_eq_true, if_false]
    cases R.findIdx? (fun (y : Nat) => decide ((y : Int) = n)) with
    | none => rfl
    | some i => rfl
theorem others_cons (c : Cn) (l : List Cn) (n : Int) : others (c :: l) n = if (c.num : Int) = n then others l n else c :: others l n := by
  unfold others
  rw [List.filter_cons]
  by_cases h : (c.num : Int) = n
  · simp [h]
  · simp [h]
theorem others_all {l : List Cn} {n : Int} (h : ∀ c ∈ l, (c.num : Int) ≠ n) : others l n = l := by
  unfold others
  exact List.filter_eq_self.2 (fun c hc => decide_eq_true (h c hc))
theorem mem_others {l : List Cn} {n : Int} {c : Cn} : c ∈ others l n ↔ c ∈ l ∧ (c.num : Int) ≠ n := by
  unfold others
  rw [List.mem_filter]
  simp
theorem rmv_map : ∀ {Cs : List Cn} {n : Int}, Cs.Pairwise (fun a b => a.num ≠ b.num) → rmv (Cs.map (·.num)) n = (others Cs n).map (·.num)
  | [], n, _ => rfl
  | c :: Cs, n, h => by
    obtain ⟨h1, h2⟩ := List.pairwise_cons.1 h
    rw [List.map_cons, rmv_cons, others_cons]
    by_cases he : (c.num : Int) = n
    · rw [if_pos he, if_pos he, others_all (fun c' hc' e => h1 c' hc' (by omega))]
    · rw [if_neg he, if_neg he, rmv_map h2, List.map_cons]
theorem len_sub : ∀ {a b : List Cn}, a.Pairwise (· ≠ ·) → (∀ x ∈ a, x ∈ b) → a.length ≤ b.length
  | [], b, _, _ => Nat.zero_le _
  | x :: a, b, h, hs => by
    obtain ⟨h1, h2⟩ := List.pairwise_cons.1 h
    have hx := hs x (List.mem_cons_self ..)
    have := len_sub (b := b.erase x) h2 (fun y hy => (List.mem_erase_of_ne (fun e => h1 y hy e.symm)).2 (hs y (List.mem_cons_of_mem _ hy)))
    rw [List.length_erase_of_mem hx] at this
    have hp : 0 < b.length := List.length_pos_of_mem hx
    rw [List.length_cons]
    omega

structure RelC (P : Pp) (R : List Nat) (Cs : List Cn) : Prop where
  r : R = Cs.map (·.num)
  srt : Cs.Pairwise (fun a b => a.nth < b.nth)
  mem : ∀ c, c ∈ Cs ↔ c ∈ P.l ∧ c.st = 2
  inc : (P.l.map (·.num)).Pairwise (· < ·)
  lt : ∀ c ∈ P.l, c.num < P.next
  nth : ∀ c ∈ P.l, c.nth ≤ P.rested
def Rel (P : Pp) (R : List Nat) : Prop := ∃ Cs, RelC P R Cs
section
variable {P : Pp} {R : List Nat} {Cs : List Cn}
theorem RelC.inj (h : RelC P R Cs) {i j : Nat} (hi : i < P.l.length) (hj : j < P.l.length) (e : (P.l[i]).num = (P.l[j]).num) : i = j := by
  have key := List.pairwise_iff_getElem.1 h.inc
  rcases Nat.lt_trichotomy i j with hlt | he | hlt
  · have := key i j (by simpa using hi) (by simpa using hj) hlt
    simp only [List.getElem_map] at this
    omega
  · exact he
  · have := key j i (by simpa using hj) (by simpa using hi) hlt
    simp only [List.getElem_map] at this
    omega
theorem RelC.inj_mem (h : RelC P R Cs) {a b : Cn} (ha : a ∈ P.l) (hb : b ∈ P.l) (e : a.num = b.num) : a = b := by
  obtain ⟨i, hi, rfl⟩ := List.getElem_of_mem ha
  obtain ⟨j, hj, rfl⟩ := List.getElem_of_mem hb
  have := h.inj hi hj e
  subst this
  rfl
theorem RelC.csne (h : RelC P R Cs) : Cs.Pairwise (fun a b => a.num ≠ b.num) := by
  refine List.Pairwise.imp_of_mem ?_ h.srt
  intro a b ha hb hlt e
  have := h.inj_mem ((h.mem a).1 ha).1 ((h.mem b).1 hb).1 e
  subst this
  omega
theorem RelC.len (h : RelC P R Cs) : R.length = resting P.l := by
  rw [h.r, List.length_map]
  unfold resting
  refine Nat.le_antisymm (len_sub (h.srt.imp (fun {a b} hlt e => by subst e; omega)) (fun x hx => ?_)) (len_sub ?_ (fun x hx => ?_))
  · rw [List.mem_filter]
    exact ⟨((h.mem x).1 hx).1, decide_eq_true ((h.mem x).1 hx).2⟩
  · refine List.Pairwise.filter _ ?_
    have := h.inc
    rw [List.pairwise_map] at this
    exact this.imp (fun {a b} hlt e => by subst e; omega)
  · rw [List.mem_filter] at hx
    exact (h.mem x).2 ⟨hx.1, of_decide_eq_true hx.2⟩
theorem RelC.rmv_ (h : RelC P R Cs) (n : Int) : rmv R n = (others Cs n).map (·.num) := by rw [h.r]; exact rmv_map h.csne
theorem RelC.at_ (h : RelC P R Cs) {i : Nat} (hi : i < P.l.length) : atI P (cnAt P.l i).num = some i := by
  unfold atI
  rw [List.findIdx?_eq_some_iff_getElem]
  refine ⟨hi, by rw [cnAt_eq hi]; simp, fun j hj => ?_⟩
  have : ¬ ((P.l[j]).num = (cnAt P.l i).num) := fun e => by
    rw [cnAt_eq hi] at e
    have := h.inj (by omega) hi e
    omega
  exact fun e => this (by have := of_decide_eq_true e; omega)
theorem RelC.others_ (h : RelC P R Cs) {i : Nat} (hi : i < P.l.length) : others P.l (cnAt P.l i).num = P.l.eraseIdx i := by
  unfold others
  rw [cnAt_eq hi]
  have e : P.l = P.l.take i ++ P.l[i] :: P.l.drop (i + 1) := by rw [← List.drop_eq_getElem_cons hi, List.take_append_drop]
  have h1 : ∀ c ∈ P.l.take i, (c.num : Int) ≠ (P.l[i]).num := fun c hc e => by
    obtain ⟨j, hj, rfl⟩ := List.getElem_of_mem hc
    rw [List.length_take] at hj
    rw [List.getElem_take] at e
    have := h.inj (i := j) (j := i) (by omega) hi (by omega)
    omega
  have h2 : ∀ c ∈ P.l.drop (i + 1), (c.num : Int) ≠ (P.l[i]).num := fun c hc e => by
    obtain ⟨j, hj, rfl⟩ := List.getElem_of_mem hc
    rw [List.length_drop] at hj
    rw [List.getElem_drop] at e
    have := h.inj (i := i + 1 + j) (j := i) (by omega) hi (by omega)
    omega
  have f1 : (P.l.take i).filter (fun c => decide ((c.num : Int) ≠ (P.l[i]).num)) = P.l.take i := List.filter_eq_self.2 (fun c hc => decide_eq_true (h1 c hc))
  have f2 : (P.l.drop (i + 1)).filter (fun c => decide ((c.num : Int) ≠ (P.l[i]).num)) = P.l.drop (i + 1) := List.filter_eq_self.2 (fun c hc => decide_eq_true (h2 c hc))
  have goal : (P.l.take i ++ P.l[i] :: P.l.drop (i + 1)).filter (fun c => decide ((c.num : Int) ≠ (P.l[i]).num)) = P.l.take i ++ P.l.drop (i + 1) := by
    rw [List.filter_append, List.filter_cons, f1, f2]
    simp
  rw [← e] at goal
  rw [goal, List.eraseIdx_eq_take_drop_succ]
/-- One is cut. -/
theorem RelC.cut (h : RelC P R Cs) (n : Int) : RelC { P with l := others P.l n } (rmv R n) (others Cs n) := by
  have hs : List.Sublist (others P.l n) P.l := List.filter_sublist
  refine ⟨h.rmv_ n, h.srt.filter _, fun c => ?_, h.inc.sublist (hs.map _), fun c hc => h.lt c (hs.subset hc), fun c hc => h.nth c (hs.subset hc)⟩
  rw [mem_others, h.mem, mem_others]
  exact ⟨fun ⟨⟨a, b⟩, c⟩ => ⟨⟨a, c⟩, b⟩, fun ⟨⟨a, c⟩, b⟩ => ⟨⟨a, b⟩, c⟩⟩
theorem RelC.cutI_ (h : RelC P R Cs) {i : Nat} (hi : i < P.l.length) : RelC (cutI P i) (rmv R (cnAt P.l i).num) (others Cs (cnAt P.l i).num) := by
  have := h.cut (cnAt P.l i).num
  rw [h.others_ hi] at this
  exact this
theorem rmv_not {R : List Nat} {n : Int} (h : ∀ x ∈ R, (x : Int) ≠ n) : rmv R n = R := by
  unfold rmv
  have : R.findIdx? (fun (y : Nat) => decide ((y : Int) = n)) = none := by
    rw [List.findIdx?_eq_none_iff]
    exact fun x hx => decide_eq_false (h x hx)
  rw [this]
theorem RelC.set_inc (h : RelC P R Cs) {i : Nat} (hi : i < P.l.length) {c : Cn} (hc : c.num = (cnAt P.l i).num) : ((P.l.set i c).map (·.num)).Pairwise (· < ·) ∧ ∀ x ∈ P.l.set i c, x.num < P.next := by
  rw [cnAt_eq hi] at hc
  refine ⟨by rw [map_num_set hi hc]; exact h.inc, fun x hx => ?_⟩
  rcases mem_set_ne hx with rfl | ⟨j, hj, _, rfl⟩
  · rw [hc]; exact h.lt _ (List.getElem_mem hi)
  · exact h.lt _ (List.getElem_mem hj)
theorem mem_set_of_ne {l : List Cn} {i j : Nat} {c : Cn} (hj : j < l.length) (h : j ≠ i) : l[j] ∈ l.set i c := by
  have : (l.set i c)[j]? = some l[j] := by rw [List.getElem?_set_ne (fun e => h e.symm), List.getElem?_eq_getElem hj]
  exact List.mem_of_getElem? this
/-- One that does not rest is turned, not to rest. -/
theorem RelC.busy (h : RelC P R Cs) {i : Nat} (hi : i < P.l.length) (hs : (cnAt P.l i).st ≠ 2) {c : Cn} (hc : c.num = (cnAt P.l i).num) (hs' : c.st ≠ 2) (hn : c.nth = (cnAt P.l i).nth) : RelC { P with l := P.l.set i c } R Cs := by
  obtain ⟨g1, g2⟩ := h.set_inc hi hc
  rw [cnAt_eq hi] at hs hn
  refine ⟨h.r, h.srt, fun x => ?_, g1, g2, fun x hx => ?_⟩
  · rw [h.mem]
    constructor
    · rintro ⟨a, b⟩
      obtain ⟨j, hj, rfl⟩ := List.getElem_of_mem a
      exact ⟨mem_set_of_ne hj (fun e => by subst e; exact hs b), b⟩
    · rintro ⟨a, b⟩
      rcases mem_set_ne a with rfl | ⟨j, hj, _, rfl⟩
      · exact absurd b hs'
      · exact ⟨List.getElem_mem hj, b⟩
  · rcases mem_set_ne hx with rfl | ⟨j, hj, _, rfl⟩
    · rw [hn]; exact h.nth _ (List.getElem_mem hi)
    · exact h.nth _ (List.getElem_mem hj)
/-- One that rests works again. -/
theorem RelC.again (h : RelC P R Cs) {i : Nat} (hi : i < P.l.length) {c : Cn} (hc : c.num = (cnAt P.l i).num) (hs' : c.st ≠ 2) (hn : c.nth = (cnAt P.l i).nth) : RelC { P with l := P.l.set i c } (rmv R (cnAt P.l i).num) (others Cs (cnAt P.l i).num) := by
  obtain ⟨g1, g2⟩ := h.set_inc hi hc
  refine ⟨h.rmv_ _, h.srt.filter _, fun x => ?_, g1, g2, fun x hx => ?_⟩
  · rw [mem_others, h.mem, cnAt_eq hi]
    constructor
    · rintro ⟨⟨a, b⟩, d⟩
      obtain ⟨j, hj, rfl⟩ := List.getElem_of_mem a
      exact ⟨mem_set_of_ne hj (fun e => by subst e; exact d rfl), b⟩
    · rintro ⟨a, b⟩
      rcases mem_set_ne a with rfl | ⟨j, hj, hji, rfl⟩
      · exact absurd b hs'
      · exact ⟨⟨List.getElem_mem hj, b⟩, fun e => hji (h.inj hj hi (by omega))⟩
  · rw [cnAt_eq hi] at hn
    rcases mem_set_ne hx with rfl | ⟨j, hj, _, rfl⟩
    · rw [hn]; exact h.nth _ (List.getElem_mem hi)
    · exact h.nth _ (List.getElem_mem hj)
/-- A new one. -/
theorem RelC.new_ (h : RelC P R Cs) (who : Int) (now : Nat) : RelC { P with next := P.next + 1, l := P.l ++ [⟨P.next, 0, who, 0, now, 0⟩] } R Cs := by
  refine ⟨h.r, h.srt, fun x => ?_, ?_, fun x hx => ?_, fun x hx => ?_⟩
  · rw [h.mem]
    constructor
    · rintro ⟨a, b⟩
      exact ⟨List.mem_append_left _ a, b⟩
    · rintro ⟨a, b⟩
      rcases List.mem_append.1 a with a | a
      · exact ⟨a, b⟩
      · rw [List.mem_singleton.1 a] at b
        exact absurd b (by decide : (0 : Nat) ≠ 2)
  · show ((P.l ++ [(⟨P.next, 0, who, 0, now, 0⟩ : Cn)]).map (·.num)).Pairwise (· < ·)
    rw [List.map_append, List.pairwise_append]
    refine ⟨h.inc, List.pairwise_singleton _ _, fun x hx y hy => ?_⟩
    obtain ⟨c, hc, rfl⟩ := List.mem_map.1 hx
    simp only [List.map_cons, List.map_nil, List.mem_singleton] at hy
    subst hy
    exact h.lt c hc
  · show x.num < P.next + 1
    rcases List.mem_append.1 hx with a | a
    · have := h.lt x a; omega
    · rw [List.mem_singleton.1 a]; exact Nat.lt_succ_self _
  · rcases List.mem_append.1 hx with a | a
    · exact h.nth x a
    · rw [List.mem_singleton.1 a]; exact Nat.zero_le _
/-- One begins to rest. -/
theorem RelC.rest_ (h : RelC P R Cs) {i now : Nat} (hi : i < P.l.length) (hs : (cnAt P.l i).st ≠ 2) : RelC (restI P i now) (R ++ [(cnAt P.l i).num]) (Cs ++ [{ cnAt P.l i with st := 2, since := now, nth := P.rested + 1 }]) := by
  obtain ⟨g1, g2⟩ := h.set_inc hi (c := { cnAt P.l i with st := 2, since := now, nth := P.rested + 1 }) rfl
  refine ⟨by rw [h.r, List.map_append]; rfl, ?_, fun x => ?_, g1, g2, fun x hx => ?_⟩
  · rw [List.pairwise_append]
    refine ⟨h.srt, List.pairwise_singleton _ _, fun a ha b hb => ?_⟩
    rw [List.mem_singleton.1 hb]
    have := h.nth a ((h.mem a).1 ha).1
    show a.nth < P.rested + 1
    omega
  · rw [List.mem_append, h.mem, List.mem_singleton]
    rw [cnAt_eq hi] at hs
    constructor
    · rintro (⟨a, b⟩ | rfl)
      · obtain ⟨j, hj, rfl⟩ := List.getElem_of_mem a
        exact ⟨mem_set_of_ne hj (fun e => by subst e; exact hs b), b⟩
      · exact ⟨List.mem_set hi _, rfl⟩
    · rintro ⟨a, b⟩
      rcases mem_set_ne a with e | ⟨j, hj, hji, rfl⟩
      · exact .inr e
      · exact .inl ⟨List.getElem_mem hj, b⟩
  · show x.nth ≤ P.rested + 1
    rcases mem_set_ne hx with e | ⟨j, hj, _, rfl⟩
    · rw [e]; exact Nat.le_refl _
    · have := h.nth _ (List.getElem_mem hj); omega
theorem bestU_spec {now : Nat} : ∀ (j : Nat), (∀ i, bestU P now j = some i → good P now (cnAt P.l i) = true ∧ ∀ i', i' < j → good P now (cnAt P.l i') = true → (cnAt P.l i').nth ≤ (cnAt P.l i).nth) ∧ (bestU P now j = none → ∀ i', i' < j → good P now (cnAt P.l i') = false)
  | 0 => ⟨fun i h => (by cases h), fun _ i' hi => (by omega)⟩
  | j + 1 => by
    obtain ⟨h1, h2⟩ := bestU_spec (now := now) j
    by_cases hg : good P now (cnAt P.l j) = true
    · cases hb : bestU P now j with
      | none =>
        have e : bestU P now (j + 1) = some j := by unfold bestU; rw [hg, hb]; rfl
        rw [e]
        refine ⟨fun i hi => ?_, fun hi => (by cases hi)⟩
        injection hi with hi
        subst hi
        refine ⟨hg, fun i' hi' hgi => ?_⟩
        rcases (show i' < j ∨ i' = j by omega) with h | rfl
        · have := h2 hb i' h; rw [hgi] at this; cases this
        · exact Nat.le_refl _
      | some o =>
        obtain ⟨g1, g2⟩ := h1 o hb
        by_cases hn : (cnAt P.l o).nth < (cnAt P.l j).nth
        · have e : bestU P now (j + 1) = some j := by unfold bestU; rw [hg, hb]; simp [beats, hn]
          rw [e]
          refine ⟨fun i hi => ?_, fun hi => (by cases hi)⟩
          injection hi with hi
          subst hi
          refine ⟨hg, fun i' hi' hgi => ?_⟩
          rcases (show i' < j ∨ i' = j by omega) with h | rfl
          · have := g2 i' h hgi; omega
          · exact Nat.le_refl _
        · have e : bestU P now (j + 1) = some o := by unfold bestU; rw [hg, hb]; simp [beats, hn]
          rw [e]
          refine ⟨fun i hi => ?_, fun hi => (by cases hi)⟩
          injection hi with hi
          subst hi
          refine ⟨g1, fun i' hi' hgi => ?_⟩
          rcases (show i' < j ∨ i' = j by omega) with h | rfl
          · exact g2 i' h hgi
          · omega
    · have hg' : good P now (cnAt P.l j) = false := by simpa using hg
      have e : bestU P now (j + 1) = bestU P now j := by
        rw [bestU, hg', Bool.false_and]
        rfl
      rw [e]
      refine ⟨fun i hi => ⟨(h1 i hi).1, fun i' hi' hgi => ?_⟩, fun hn i' hi' => ?_⟩
      · rcases (show i' < j ∨ i' = j by omega) with h | rfl
        · exact (h1 i hi).2 i' h hgi
        · rw [hg'] at hgi; cases hgi
      · rcases (show i' < j ∨ i' = j by omega) with h | rfl
        · exact h2 hn i' h
        · exact hg'
theorem RelC.none_ (h : RelC P R Cs) {now : Nat} (hk : ∀ k (hk : k < Cs.length), ¬ now < endC P Cs[k]) : bestU P now P.l.length = none := by
  cases hb : bestU P now P.l.length with
  | none => rfl
  | some i =>
    have hil := bestU_lt hb
    have hg := bestU_good hb
    unfold good at hg
    obtain ⟨g1, g2⟩ := Bool.and_eq_true_iff.1 hg
    have hm := (h.mem (cnAt P.l i)).2 ⟨cnAt_mem hil, of_decide_eq_true g1⟩
    obtain ⟨k, hkl, he⟩ := List.getElem_of_mem hm
    exact absurd (by rw [he]; exact of_decide_eq_true g2) (hk k hkl)
theorem RelC.pick (h : RelC P R Cs) {now k : Nat} (hk : k < Cs.length) (hg : now < endC P Cs[k]) (hl : ∀ k' (hk' : k' < Cs.length), k < k' → ¬ now < endC P Cs[k']) : ∃ i, bestU P now P.l.length = some i ∧ i < P.l.length ∧ cnAt P.l i = Cs[k] := by
  have hm := (h.mem Cs[k]).1 (List.getElem_mem hk)
  obtain ⟨i, hi, he⟩ := List.getElem_of_mem hm.1
  have he' : cnAt P.l i = Cs[k] := by rw [cnAt_eq hi, he]
  have hgi : good P now (cnAt P.l i) = true := by
    unfold good
    rw [he', decide_eq_true hm.2, decide_eq_true hg]
    rfl
  obtain ⟨s1, s2⟩ := bestU_spec (P := P) (now := now) P.l.length
  cases hb : bestU P now P.l.length with
  | none => have := s2 hb i hi; rw [hgi] at this; cases this
  | some j =>
    have hjl := bestU_lt hb
    obtain ⟨hgj, hmax⟩ := s1 j hb
    have hgj' := hgj
    unfold good at hgj'
    obtain ⟨g1, g2⟩ := Bool.and_eq_true_iff.1 hgj'
    obtain ⟨k2, hk2, he2⟩ := List.getElem_of_mem ((h.mem (cnAt P.l j)).2 ⟨cnAt_mem hjl, of_decide_eq_true g1⟩)
    have hle := hmax i hi hgi
    rw [he', ← he2] at hle
    have hkk : k2 ≤ k := by
      rcases Nat.lt_or_ge k k2 with hlt | hge
      · exact absurd (by rw [he2]; exact of_decide_eq_true g2) (hl k2 hk2 hlt)
      · exact hge
    have hke : k2 = k := by
      rcases Nat.lt_or_eq_of_le hkk with hlt | he
      · have := List.pairwise_iff_getElem.1 h.srt k2 k hk2 hk hlt
        omega
      · exact he
    subst hke
    exact ⟨j, rfl, hjl, he2.symm⟩
end
theorem rel_new (a b c d : Nat) : RelC (newP a b c d) [] [] := ⟨rfl, List.Pairwise.nil, fun c => ⟨fun h => (by cases h), fun ⟨h, _⟩ => (by cases h)⟩, List.Pairwise.nil, fun c hc => (by cases hc), fun c hc => (by cases hc)⟩
end Go.Proofs.Ytmpcffkandmacaa
