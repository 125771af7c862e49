/- What timers are, as plain lists: handles, slots, what comes first, what fires. No program in sight. -/
import Derived.Test.YtbbihkddogbicaaHeap
namespace Go.Proofs.Ytbbihkddogbicaa
set_option linter.unusedVariables false

def busy (ts : List Tm) (i : Nat) : Bool := ts.any fun t => t.slot == i
theorem busy_iff {ts : List Tm} {i : Nat} : busy ts i = true ↔ ∃ t ∈ ts, t.slot = i := by simp [busy]
def takenOf (ts : List Tm) (n : Nat) : List Bool := (List.range n).map (busy ts)
@[simp] theorem length_takenOf (ts : List Tm) (n : Nat) : (takenOf ts n).length = n := by simp [takenOf]
theorem takenOf_get {ts : List Tm} {n i : Nat} (h : i < n) : (takenOf ts n)[i]? = some (busy ts i) := by simp [takenOf, h]
theorem takenOf_getD {ts : List Tm} {n i : Nat} (h : i < n) : (takenOf ts n).getD i false = busy ts i := by simp [takenOf, List.getD_eq_getElem?_getD, h]
/-- The least free slot; n: there is none. -/
def slotOf (ts : List Tm) (n : Nat) : Nat := (takenOf ts n).findIdx (fun b => b == false)
theorem slotOf_le (ts : List Tm) (n : Nat) : slotOf ts n ≤ n := by
  unfold slotOf
  have := List.findIdx_le_length (xs := takenOf ts n) (p := fun b => b == false)
  rwa [length_takenOf] at this
theorem slotOf_free {ts : List Tm} {n : Nat} (h : slotOf ts n < n) : busy ts (slotOf ts n) = false := by
  have hl : slotOf ts n < (takenOf ts n).length := by rw [length_takenOf]; exact h
  have h1 : ((takenOf ts n)[slotOf ts n] == false) = true := List.findIdx_getElem (w := hl)
  have h2 := takenOf_get (ts := ts) h
  rw [List.getElem?_eq_getElem hl] at h2
  injection h2 with h2
  rw [h2] at h1
  simpa using h1
theorem slotOf_below {ts : List Tm} {n i : Nat} (h : i < slotOf ts n) : busy ts i = true := by
  have hn : i < n := Nat.lt_of_lt_of_le h (slotOf_le ts n)
  have h1 := List.not_of_lt_findIdx (p := fun b => b == false) h
  have h2 := takenOf_get (ts := ts) hn
  rw [List.getElem?_eq_getElem (by rw [length_takenOf]; exact hn)] at h2
  injection h2 with h2
  rw [h2] at h1
  simpa using h1
theorem slotOf_eq {ts : List Tm} {n i : Nat} (hi : i ≤ n) (hb : ∀ j, j < i → busy ts j = true) (hf : i < n → busy ts i = false) : slotOf ts n = i := by
  rcases Nat.lt_trichotomy (slotOf ts n) i with h | h | h
  · have := hb _ h
    rw [slotOf_free (by omega)] at this
    cases this
  · exact h
  · have h1 := slotOf_below h
    have h2 := slotOf_le ts n
    rw [hf (by omega)] at h1
    cases h1

theorem pigeon : ∀ (n : Nat) (l : List Nat), (∀ i, i < n → i ∈ l) → n ≤ l.length
  | 0, _, _ => Nat.zero_le _
  | n + 1, l, h => by
    have hm := h n (by omega)
    have := pigeon n (l.erase n) (fun i hi => (List.mem_erase_of_ne (by omega)).2 (h i (by omega)))
    rw [List.length_erase_of_mem hm] at this
    have := List.length_pos_of_mem hm
    omega

def usedX (ts : List Tm) (used : List Nat) : List Nat := if slotOf ts used.length < used.length then used else used ++ [0]
def usedOf (ts : List Tm) (used : List Nat) : List Nat := (usedX ts used).set (slotOf ts used.length) ((usedX ts used).getD (slotOf ts used.length) 0 + 1)
def newOf (ts : List Tm) (used : List Nat) (set : Nat) (at_ key : Int) : Tm := ⟨at_, set + 1, key, slotOf ts used.length, (usedX ts used).getD (slotOf ts used.length) 0 + 1⟩
theorem length_usedX (ts : List Tm) (used : List Nat) : used.length ≤ (usedX ts used).length ∧ (usedX ts used).length ≤ used.length + 1 ∧ slotOf ts used.length < (usedX ts used).length ∧ ((usedX ts used).length = used.length + 1 → slotOf ts used.length = used.length) := by
  unfold usedX
  have := slotOf_le ts used.length
  split
  · refine ⟨?_, ?_, ?_, ?_⟩ <;> omega
  · simp only [List.length_append, List.length_singleton]
    refine ⟨?_, ?_, ?_, ?_⟩ <;> omega
theorem length_usedOf (ts : List Tm) (used : List Nat) : (usedOf ts used).length = (usedX ts used).length := by simp [usedOf]

structure Ok (most : Nat) (ts : List Tm) (used : List Nat) (set : Nat) : Prop where
  most_ : 1 ≤ most ∧ most ≤ 4096
  len : ts.length ≤ most
  slot : ∀ t ∈ ts, t.slot < used.length
  slots : ts.Pairwise (fun a b => a.slot ≠ b.slot)
  order : ts.Pairwise (fun a b => a.nth < b.nth)
  last : ∀ t ∈ ts, t.nth ≤ set
  age : ∀ t ∈ ts, used.getD t.slot 0 = t.age
  ages : ∀ i, i < used.length → 1 ≤ used.getD i 0 ∧ used.getD i 0 ≤ set
  room : used.length ≤ most
  at_ : ∀ t ∈ ts, 0 ≤ t.at_ ∧ t.at_ ≤ 4611686018427387904

section
variable {most : Nat} {ts : List Tm} {used : List Nat} {set : Nat}

theorem Ok.new (h : 1 ≤ most ∧ most ≤ 4096) : Ok most [] [] 0 :=
  ⟨h, by simp, by simp, List.Pairwise.nil, List.Pairwise.nil, by simp, by simp, by simp, by simp, by simp⟩
theorem Ok.slot_lt (h : Ok most ts used set) {t : Tm} (ht : t ∈ ts) : t.slot < 4096 := by have := h.slot t ht; have := h.room; have := h.most_; omega
theorem Ok.handle_mod (h : Ok most ts used set) {t : Tm} (ht : t ∈ ts) : t.handle % 4096 = t.slot ∧ t.handle / 4096 = t.age := by
  have := h.slot_lt ht; unfold Tm.handle; omega
theorem Ok.age_pos (h : Ok most ts used set) {t : Tm} (ht : t ∈ ts) : 1 ≤ t.age ∧ t.age ≤ set := by
  have := h.ages _ (h.slot t ht); rw [h.age t ht] at this; exact this
theorem Ok.handle_pos (h : Ok most ts used set) {t : Tm} (ht : t ∈ ts) : 4096 ≤ t.handle := by
  have := (h.age_pos ht).1; unfold Tm.handle; omega
theorem Ok.filter (h : Ok most ts used set) (f : Tm → Bool) : Ok most (ts.filter f) used set :=
  ⟨h.most_, Nat.le_trans (List.length_filter_le _ _) h.len, fun t ht => h.slot t (List.mem_filter.1 ht).1, h.slots.filter _, h.order.filter _, fun t ht => h.last t (List.mem_filter.1 ht).1,
    fun t ht => h.age t (List.mem_filter.1 ht).1, h.ages, h.room, fun t ht => h.at_ t (List.mem_filter.1 ht).1⟩
theorem pairwise_inj {α β : Type} {f : α → β} {l : List α} (h : l.Pairwise (fun a b => f a ≠ f b)) {a b : α} (ha : a ∈ l) (hb : b ∈ l) (e : f a = f b) : a = b := by
  induction h with
  | nil => cases ha
  | cons hx _ ih =>
    rcases List.mem_cons.1 ha with e1 | h1
    · rcases List.mem_cons.1 hb with e2 | h2
      · rw [e1, e2]
      · exact absurd (by rw [← e1]; exact e) (hx _ h2)
    · rcases List.mem_cons.1 hb with e2 | h2
      · exact absurd (by rw [← e2]; exact e.symm) (hx _ h1)
      · exact ih h1 h2
theorem Ok.slot_inj (h : Ok most ts used set) {a b : Tm} (ha : a ∈ ts) (hb : b ∈ ts) (e : a.slot = b.slot) : a = b := pairwise_inj h.slots ha hb e
theorem Ok.handle_inj (h : Ok most ts used set) {a b : Tm} (ha : a ∈ ts) (hb : b ∈ ts) (e : a.handle = b.handle) : a = b :=
  h.slot_inj ha hb (by rw [← (h.handle_mod ha).1, ← (h.handle_mod hb).1, e])
theorem Ok.nth_inj (h : Ok most ts used set) {a b : Tm} (ha : a ∈ ts) (hb : b ∈ ts) (e : a.nth = b.nth) : a = b :=
  pairwise_inj (f := Tm.nth) (h.order.imp (fun h => Nat.ne_of_lt h)) ha hb e

/-- Where no slot is free there are as many timers as slots. -/
theorem Ok.full (h : Ok most ts used set) (hf : slotOf ts used.length = used.length) : used.length ≤ ts.length := by
  have := pigeon used.length (ts.map (·.slot)) (fun i hi => by
    obtain ⟨t, ht, e⟩ := busy_iff.1 (slotOf_below (ts := ts) (n := used.length) (i := i) (by omega))
    exact List.mem_map.2 ⟨t, ht, e⟩)
  simpa using this
theorem Ok.room1 (h : Ok most ts used set) (hr : ts.length < most) : (usedX ts used).length ≤ most := by
  have h1 := length_usedX ts used
  have h2 := h.room
  by_cases e : (usedX ts used).length = used.length + 1
  · have := h.full (h1.2.2.2 e)
    omega
  · omega
theorem Ok.free (h : Ok most ts used set) {t : Tm} (ht : t ∈ ts) : t.slot ≠ slotOf ts used.length := by
  intro e
  have h1 := h.slot t ht
  have h2 := slotOf_free (ts := ts) (n := used.length) (by omega)
  rw [← e] at h2
  have : busy ts t.slot = true := busy_iff.2 ⟨t, ht, rfl⟩
  rw [h2] at this
  cases this
theorem getD_set (l : List Nat) (i j x : Nat) : (l.set i x).getD j 0 = if i = j ∧ i < l.length then x else l.getD j 0 := by
  simp only [List.getD_eq_getElem?_getD, List.getElem?_set]
  by_cases e : i = j
  · subst e
    by_cases hl : i < l.length
    · simp [hl]
    · simp [hl]
  · simp [e]
theorem usedX_getD (ts : List Tm) (used : List Nat) (i : Nat) : (usedX ts used).getD i 0 = used.getD i 0 := by
  unfold usedX
  split
  · rfl
  · simp only [List.getD_eq_getElem?_getD]
    by_cases h : i < used.length
    · rw [List.getElem?_append_left h]
    · rw [List.getElem?_append_right (by omega), List.getElem?_eq_none (show used.length ≤ i by omega)]
      by_cases e : i - used.length = 0
      · rw [e]; rfl
      · rw [List.getElem?_eq_none (by simp; omega)]
theorem used_le (h : Ok most ts used set) (i : Nat) : used.getD i 0 ≤ set := by
  by_cases hi : i < used.length
  · exact (h.ages i hi).2
  · rw [List.getD_eq_getElem?_getD, List.getElem?_eq_none (by omega)]; exact Nat.zero_le _

theorem Ok.add (h : Ok most ts used set) (hr : ts.length < most) {at_ key : Int} (ha : 0 ≤ at_ ∧ at_ ≤ 4611686018427387904) :
    Ok most (ts ++ [newOf ts used set at_ key]) (usedOf ts used) (set + 1) := by
  have hx := length_usedX ts used
  have hl := length_usedOf ts used
  have mem : ∀ t, t ∈ ts ++ [newOf ts used set at_ key] → t ∈ ts ∨ t = newOf ts used set at_ key := fun t ht => by simpa using ht
  have hu : ∀ i, (usedOf ts used).getD i 0 = if slotOf ts used.length = i then used.getD i 0 + 1 else used.getD i 0 := fun i => by
    unfold usedOf
    rw [getD_set]
    by_cases e : slotOf ts used.length = i
    · rw [if_pos ⟨e, hx.2.2.1⟩, if_pos e, e, usedX_getD]
    · rw [if_neg (fun hh => e hh.1), if_neg e, usedX_getD]
  refine ⟨h.most_, by rw [List.length_append, List.length_singleton]; omega, fun t ht => ?_, ?_, ?_, fun t ht => ?_, fun t ht => ?_, fun i hi => ?_, by rw [hl]; exact h.room1 hr, fun t ht => ?_⟩
  · rcases mem t ht with ht | rfl
    · have := h.slot t ht; omega
    · rw [hl]; exact hx.2.2.1
  · refine List.pairwise_append.2 ⟨h.slots, List.pairwise_singleton _ _, fun a ha b hb => ?_⟩
    rw [List.mem_singleton.1 hb]
    exact h.free ha
  · refine List.pairwise_append.2 ⟨h.order, List.pairwise_singleton _ _, fun a ha b hb => ?_⟩
    rw [List.mem_singleton.1 hb]
    have := h.last a ha
    show a.nth < set + 1
    omega
  · rcases mem t ht with ht | rfl
    · have := h.last t ht; omega
    · exact Nat.le_refl _
  · rw [hu]
    rcases mem t ht with ht | rfl
    · rw [if_neg (fun e => h.free ht e.symm)]; exact h.age t ht
    · show (if slotOf ts used.length = slotOf ts used.length then _ else _) = _
      rw [if_pos rfl]
      show _ = (usedX ts used).getD _ 0 + 1
      rw [usedX_getD]
      rfl
  · rw [hu]
    split
    · have := used_le h i; omega
    · rename_i hne
      have : i < used.length := by omega
      have := h.ages i this
      omega
  · rcases mem t ht with ht | rfl
    · exact h.at_ t ht
    · exact ha
theorem busy_append (ts : List Tm) (x : Tm) (i : Nat) : busy (ts ++ [x]) i = (busy ts i || x.slot == i) := by simp [busy]
/-- What is taken behind a Set. -/
theorem takenOf_set (ts : List Tm) (used : List Nat) (set : Nat) (at_ key : Int) :
    takenOf (ts ++ [newOf ts used set at_ key]) (usedOf ts used).length = (if slotOf ts used.length < used.length then takenOf ts used.length else takenOf ts used.length ++ [false]).set (slotOf ts used.length) true := by
  have hx := length_usedX ts used
  have hle := slotOf_le ts used.length
  have hlen : (usedOf ts used).length = if slotOf ts used.length < used.length then used.length else used.length + 1 := by
    rw [length_usedOf]; unfold usedX; split <;> simp
  refine List.ext_getElem? fun i => ?_
  rw [List.getElem?_set]
  by_cases hi : i < (usedOf ts used).length
  · rw [takenOf_get hi, busy_append]
    show some (busy ts i || slotOf ts used.length == i) = _
    by_cases e : slotOf ts used.length = i
    · rw [if_pos e, if_pos (by rw [e]; rw [hlen] at hi; split <;> simp <;> split at hi <;> omega)]
      simp [e]
    · rw [if_neg e, beq_false_of_ne e, Bool.or_false]
      rw [hlen] at hi
      split
      · rename_i hs
        rw [if_pos hs] at hi
        rw [takenOf_get hi]
      · rename_i hs
        rw [if_neg hs] at hi
        rw [List.getElem?_append_left (by rw [length_takenOf]; omega), takenOf_get (by omega)]
  · rw [List.getElem?_eq_none (by rw [length_takenOf]; omega)]
    rw [hlen] at hi
    by_cases hs : slotOf ts used.length < used.length
    · simp only [if_pos hs] at hi ⊢
      rw [if_neg (by omega), List.getElem?_eq_none (by rw [length_takenOf]; omega)]
    · simp only [if_neg hs] at hi ⊢
      rw [if_neg (by omega), List.getElem?_eq_none (by rw [List.length_append, length_takenOf, List.length_singleton]; omega)]

/-- Those but one. -/
def rest (ts : List Tm) (x : Tm) : List Tm := ts.filter fun t => t.handle != x.handle
def has (ts : List Tm) (k : Int) : Bool := ts.any fun t => (t.handle : Int) == k
theorem has_iff {ts : List Tm} {k : Int} : has ts k = true ↔ ∃ t ∈ ts, (t.handle : Int) = k := by simp [has]
def without (ts : List Tm) (k : Int) : List Tm := ts.filter fun t => (t.handle : Int) != k
theorem without_eq (ts : List Tm) (x : Tm) : without ts x.handle = rest ts x := by
  unfold without rest
  refine List.filter_congr fun t _ => ?_
  rw [Bool.eq_iff_iff]
  simp
  omega
theorem without_none {ts : List Tm} {k : Int} (h : has ts k = false) : without ts k = ts := by
  unfold without
  rw [List.filter_eq_self]
  intro t ht
  simp only [bne_iff_ne, ne_eq]
  intro e
  rw [has_iff.2 ⟨t, ht, e⟩] at h
  cases h
/-- Out of a heap one is taken: the others stay. -/
theorem Ok.rest_perm (h : Ok most ts used set) {x : Tm} {hp hp' : List Tm} (hx : hp.Perm ts) (hp2 : hp.Perm (x :: hp')) : hp'.Perm (rest ts x) := by
  have hxm : x ∈ ts := hx.subset (hp2.symm.subset (List.mem_cons_self ..))
  have hnd : (x :: hp').Nodup := by
    refine (hp2.symm.trans hx).symm.nodup ?_
    exact h.slots.imp (fun hne e => hne (by rw [e]))
  have h1 := (hp2.symm.trans hx).filter (fun t => t.handle != x.handle)
  have e1 : (x :: hp').filter (fun t => t.handle != x.handle) = hp' := by
    rw [List.filter_cons_of_neg (by simp), List.filter_eq_self]
    intro t ht
    simp only [bne_iff_ne, ne_eq]
    intro e
    have htm : t ∈ ts := hx.subset (hp2.symm.subset (List.mem_cons_of_mem _ ht))
    have := h.handle_inj htm hxm e
    subst this
    exact (List.nodup_cons.1 hnd).1 ht
  rw [e1] at h1
  exact h1
theorem Ok.rest_len (h : Ok most ts used set) {x : Tm} (hx : x ∈ ts) : (rest ts x).length + 1 = ts.length := by
  have := (h.rest_perm (List.Perm.refl ts) (List.perm_cons_erase hx)).length_eq
  rw [List.length_erase_of_mem hx] at this
  have := List.length_pos_of_mem hx
  omega
theorem Ok.takenOf_rest (h : Ok most ts used set) {x : Tm} (hx : x ∈ ts) : takenOf (rest ts x) used.length = (takenOf ts used.length).set x.slot false := by
  refine List.ext_getElem? fun i => ?_
  rw [List.getElem?_set, length_takenOf]
  by_cases hi : i < used.length
  · rw [takenOf_get hi]
    by_cases e : x.slot = i
    · rw [if_pos e, if_pos (by omega)]
      congr 1
      rw [← Bool.not_eq_true]
      intro hb
      obtain ⟨t, ht, et⟩ := busy_iff.1 hb
      obtain ⟨ht1, ht2⟩ := List.mem_filter.1 ht
      have := h.slot_inj ht1 hx (by omega)
      subst this
      simp at ht2
    · rw [if_neg e, takenOf_get hi]
      congr 1
      rw [Bool.eq_iff_iff, busy_iff, busy_iff]
      constructor
      · rintro ⟨t, ht, et⟩; exact ⟨t, (List.mem_filter.1 ht).1, et⟩
      · rintro ⟨t, ht, et⟩
        refine ⟨t, List.mem_filter.2 ⟨ht, ?_⟩, et⟩
        simp only [bne_iff_ne, ne_eq]
        intro e2
        have := h.handle_inj ht hx e2
        subst this
        exact e et
  · rw [List.getElem?_eq_none (by rw [length_takenOf]; omega)]
    by_cases e : x.slot = i
    · rw [if_pos e, if_neg (by omega)]
    · rw [if_neg e, List.getElem?_eq_none (by rw [length_takenOf]; omega)]

/-- The first in the order. -/
def least (o : Tm) (ts : List Tm) : Tm := ts.foldl (fun o x => if x.at_ < o.at_ then x else o) o
def firstL (ts : List Tm) : Tm := match ts with | [] => default | t :: r => least t r
theorem least_mem (o : Tm) (ts : List Tm) : least o ts = o ∨ least o ts ∈ ts := by
  induction ts generalizing o with
  | nil => exact .inl rfl
  | cons t r ih =>
    show least (if t.at_ < o.at_ then t else o) r = o ∨ _
    by_cases h : t.at_ < o.at_
    · rw [if_pos h]
      rcases ih t with e | e
      · exact .inr (by show least (if t.at_ < o.at_ then t else o) r ∈ _; rw [if_pos h, e]; exact List.mem_cons_self ..)
      · exact .inr (by show least (if t.at_ < o.at_ then t else o) r ∈ _; rw [if_pos h]; exact List.mem_cons_of_mem _ e)
    · rw [if_neg h]
      rcases ih o with e | e
      · exact .inl e
      · exact .inr (by show least (if t.at_ < o.at_ then t else o) r ∈ _; rw [if_neg h]; exact List.mem_cons_of_mem _ e)
theorem least_min (o : Tm) (ts : List Tm) (h : (o :: ts).Pairwise (fun a b => a.nth < b.nth)) : ∀ t, t ∈ o :: ts → ¬ lt t (least o ts) := by
  induction ts generalizing o with
  | nil => intro t ht; rw [List.mem_singleton.1 ht]; exact lt_irrefl _
  | cons x r ih =>
    intro t ht
    show ¬ lt t (least (if x.at_ < o.at_ then x else o) r)
    have h0 : o.nth < x.nth := by
      have := (List.pairwise_cons.1 h).1 x (List.mem_cons_self ..)
      exact this
    by_cases c : x.at_ < o.at_
    · rw [if_pos c]
      have hx : (x :: r).Pairwise (fun a b => a.nth < b.nth) := (List.pairwise_cons.1 h).2
      rcases List.mem_cons.1 ht with rfl | ht
      · refine nlt_trans (b := x) ?_ (ih x hx x (List.mem_cons_self ..))
        unfold lt; omega
      · exact ih x hx t ht
    · rw [if_neg c]
      have ho : (o :: r).Pairwise (fun a b => a.nth < b.nth) := by
        refine List.pairwise_cons.2 ⟨fun y hy => (List.pairwise_cons.1 h).1 y (List.mem_cons_of_mem _ hy), (List.pairwise_cons.1 (List.pairwise_cons.1 h).2).2⟩
      rcases List.mem_cons.1 ht with rfl | ht
      · exact ih _ ho _ (List.mem_cons_self ..)
      · rcases List.mem_cons.1 ht with rfl | ht
        · refine nlt_trans (b := o) ?_ (ih o ho o (List.mem_cons_self ..))
          unfold lt; omega
        · exact ih o ho t (List.mem_cons_of_mem _ ht)
theorem first_mem {ts : List Tm} (h : ts ≠ []) : firstL ts ∈ ts := by
  cases ts with
  | nil => exact absurd rfl h
  | cons t r =>
    show least t r ∈ _
    rcases least_mem t r with e | e
    · rw [e]; exact List.mem_cons_self ..
    · exact List.mem_cons_of_mem _ e
theorem Ok.first_min (h : Ok most ts used set) {t : Tm} (ht : t ∈ ts) : ¬ lt t (firstL ts) := by
  cases ts with
  | nil => cases ht
  | cons x r => exact least_min x r h.order t ht
/-- Whoever is in it and not greater than any is the first. -/
theorem Ok.first_eq (h : Ok most ts used set) {x : Tm} (hx : x ∈ ts) (hm : ∀ t ∈ ts, ¬ lt t x) : x = firstL ts := by
  have hne : ts ≠ [] := fun e => by rw [e] at hx; cases hx
  have h1 := hm _ (first_mem hne)
  have h2 := h.first_min hx
  exact h.nth_inj hx (first_mem hne) (by unfold lt at h1 h2; omega)
theorem Ok.root_first (h : Ok most ts used set) {hp : List Tm} (hx : hp.Perm ts) (hh : IsHeap hp) (hne : ts ≠ []) : nth_ hp 0 = firstL ts := by
  have h0 : 0 < hp.length := by rw [hx.length_eq]; exact List.length_pos_iff.2 hne
  exact h.first_eq (hx.subset (nth_mem h0)) (fun t ht => root_min_mem hh t (hx.symm.subset ht))

theorem rest_lt {ts : List Tm} (h : ts ≠ []) : (rest ts (firstL ts)).length < ts.length := by
  unfold rest
  refine List.length_filter_lt_length_iff_exists.2 ⟨firstL ts, first_mem h, by simp⟩
/-- What fires. -/
def fire (now : Int) (ts : List Tm) : List Tm := if h : ts ≠ [] ∧ (firstL ts).at_ ≤ now then firstL ts :: fire now (rest ts (firstL ts)) else []
termination_by ts.length
decreasing_by exact rest_lt h.1
/-- What stays. -/
def stay (now : Int) (ts : List Tm) : List Tm := if h : ts ≠ [] ∧ (firstL ts).at_ ≤ now then stay now (rest ts (firstL ts)) else ts
termination_by ts.length
decreasing_by exact rest_lt h.1
theorem fire_step {now : Int} {ts : List Tm} (h : ts ≠ [] ∧ (firstL ts).at_ ≤ now) : fire now ts = firstL ts :: fire now (rest ts (firstL ts)) ∧ stay now ts = stay now (rest ts (firstL ts)) := by
  constructor
  · rw [fire, dif_pos h]
  · rw [stay, dif_pos h]
theorem fire_stop {now : Int} {ts : List Tm} (h : ¬ (ts ≠ [] ∧ (firstL ts).at_ ≤ now)) : fire now ts = [] ∧ stay now ts = ts := by
  constructor
  · rw [fire, dif_neg h]
  · rw [stay, dif_neg h]
/-- Just those are left that are not due. -/
theorem Ok.stay_eq (now : Int) (h : Ok most ts used set) : stay now ts = ts.filter (fun t => decide (now < t.at_)) ∧ (fire now ts).Perm (ts.filter (fun t => decide (t.at_ ≤ now))) ∧ (fire now ts).Pairwise lt := by
  induction hn : ts.length using Nat.strongRecOn generalizing ts with
  | ind n ih =>
    by_cases c : ts ≠ [] ∧ (firstL ts).at_ ≤ now
    · have hm := first_mem c.1
      obtain ⟨e1, e2, e3⟩ := ih _ (by rw [← hn]; exact rest_lt c.1) (h.filter _) rfl
      rw [(fire_step c).1, (fire_step c).2]
      refine ⟨?_, ?_, ?_⟩
      · refine e1.trans ?_
        show (ts.filter _).filter _ = _
        rw [List.filter_filter]
        refine List.filter_congr fun t ht => ?_
        rw [Bool.eq_iff_iff]
        simp only [Bool.and_eq_true, bne_iff_ne, ne_eq, decide_eq_true_eq]
        refine ⟨fun hh => hh.1, fun hh => ⟨hh, fun e => ?_⟩⟩
        have := h.handle_inj ht hm e
        rw [this] at hh
        omega
      · have hp := h.rest_perm (List.Perm.refl ts) (List.perm_cons_erase hm)
        have h3 : ts.Perm (firstL ts :: rest ts (firstL ts)) := (List.perm_cons_erase hm).trans (hp.cons _)
        have h4 := h3.filter (fun t => decide (t.at_ ≤ now))
        rw [List.filter_cons_of_pos (by simpa using c.2)] at h4
        exact (e2.cons _).trans h4.symm
      · refine List.pairwise_cons.2 ⟨fun t ht => ?_, e3⟩
        have ht1 := (List.mem_filter.1 (e2.subset ht)).1
        obtain ⟨ht2, ht3⟩ := List.mem_filter.1 ht1
        have h1 := h.first_min ht2
        have hne : t ≠ firstL ts := fun e => by rw [e] at ht3; simp at ht3
        have hnn : t.nth ≠ (firstL ts).nth := fun e => hne (h.nth_inj ht2 hm e)
        unfold lt at *
        omega
    · rw [(fire_stop c).1, (fire_stop c).2]
      have hall : ∀ t ∈ ts, now < t.at_ := fun t ht => by
        have hne : ts ≠ [] := fun e => by rw [e] at ht; cases ht
        have h1 := h.first_min ht
        have h2 : ¬ (firstL ts).at_ ≤ now := fun hh => c ⟨hne, hh⟩
        unfold lt at h1
        omega
      refine ⟨?_, ?_, List.Pairwise.nil⟩
      · rw [List.filter_eq_self.2]
        intro t ht
        exact decide_eq_true (hall t ht)
      · rw [List.filter_eq_nil_iff.2]
        intro t ht
        have := hall t ht
        simp
        omega
theorem Ok.stay (h : Ok most ts used set) (now : Int) : Ok most (stay now ts) used set := by rw [(h.stay_eq now).1]; exact h.filter _
end
end Go.Proofs.Ytbbihkddogbicaa
