/- A heap of timers as plain lists: up, down, take; what they keep. No program in sight. -/
namespace Go.Proofs.Ytbbihkddogbicaa
set_option linter.unusedVariables false

/-- A timer: when, the how-manieth that was set, its key, its slot and the slot's age. -/
structure Tm where
  at_ : Int
  nth : Nat
  key : Int
  slot : Nat
  age : Nat
deriving DecidableEq, Inhabited

def Tm.handle (t : Tm) : Nat := t.age * 4096 + t.slot
def lt (a b : Tm) : Prop := a.at_ < b.at_ ∨ (a.at_ = b.at_ ∧ a.nth < b.nth)
instance (a b : Tm) : Decidable (lt a b) := inferInstanceAs (Decidable (_ ∨ _))

theorem lt_irrefl (a : Tm) : ¬ lt a a := by unfold lt; omega
theorem lt_asymm {a b : Tm} (h : lt a b) : ¬ lt b a := by unfold lt at *; omega
theorem nlt_trans {a b c : Tm} (h : ¬ lt a b) (k : ¬ lt b c) : ¬ lt a c := by unfold lt at *; omega

/-- The i'th. -/
def nth_ (h : List Tm) (i : Nat) : Tm := h.getD i default
theorem nth_eq {h : List Tm} {i : Nat} (hi : i < h.length) : nth_ h i = h[i] := by
  unfold nth_; simp [List.getD_eq_getElem?_getD, List.getElem?_eq_getElem hi]
theorem nth_get {h : List Tm} {i : Nat} (hi : i < h.length) : h[i]? = some (nth_ h i) := by
  rw [nth_eq hi]; exact List.getElem?_eq_getElem hi
theorem nth_set (h : List Tm) (i j : Nat) (x : Tm) : nth_ (h.set i x) j = if i = j ∧ i < h.length then x else nth_ h j := by
  unfold nth_
  simp only [List.getD_eq_getElem?_getD, List.getElem?_set]
  by_cases e : i = j
  · subst e
    by_cases hl : i < h.length
    · simp [hl]
    · simp [hl]
  · simp [e]
theorem nth_mem {h : List Tm} {i : Nat} (hi : i < h.length) : nth_ h i ∈ h := by rw [nth_eq hi]; exact List.getElem_mem hi

/-- Two change places. -/
def swap (h : List Tm) (i j : Nat) : List Tm := (h.set i (nth_ h j)).set j (nth_ h i)
@[simp] theorem length_swap (h : List Tm) (i j : Nat) : (swap h i j).length = h.length := by simp [swap]
theorem nth_swap {h : List Tm} {i j : Nat} (hi : i < h.length) (hj : j < h.length) (k : Nat) : nth_ (swap h i j) k = if k = j then nth_ h i else if k = i then nth_ h j else nth_ h k := by
  unfold swap
  rw [nth_set, List.length_set, nth_set]
  by_cases e1 : k = j
  · subst e1; simp [hj]
  · rw [if_neg (by omega), if_neg e1]
    by_cases e2 : k = i
    · subst e2; simp [hi]
    · rw [if_neg (by omega), if_neg e2]
theorem perm_swap {h : List Tm} {i j : Nat} (hi : i < h.length) (hj : j < h.length) : (swap h i j).Perm h := by
  unfold swap
  rw [nth_eq hi, nth_eq hj]
  exact List.set_set_perm hi hj

def up (h : List Tm) (i : Nat) : List Tm :=
  if 0 < i ∧ lt (nth_ h i) (nth_ h ((i - 1) / 2)) then up (swap h i ((i - 1) / 2)) ((i - 1) / 2) else h
termination_by i
decreasing_by omega

/-- The lesser kid's place. -/
def kid (h : List Tm) (i : Nat) : Nat := if 2 * i + 2 < h.length ∧ lt (nth_ h (2 * i + 2)) (nth_ h (2 * i + 1)) then 2 * i + 2 else 2 * i + 1
theorem kid_two (h : List Tm) (i : Nat) : kid h i = 2 * i + 1 ∨ kid h i = 2 * i + 2 := by unfold kid; split <;> simp
theorem kid_lt {h : List Tm} {i : Nat} (hi : 2 * i + 1 < h.length) : kid h i < h.length := by unfold kid; split <;> omega

def down (h : List Tm) (i : Nat) : List Tm :=
  if 2 * i + 1 < h.length ∧ lt (nth_ h (kid h i)) (nth_ h i) then down (swap h i (kid h i)) (kid h i) else h
termination_by h.length - i
decreasing_by
  rename_i hh
  have := kid_two h i
  rw [length_swap]
  omega

theorem up_step {h : List Tm} {i : Nat} (h0 : 0 < i) (hl : lt (nth_ h i) (nth_ h ((i - 1) / 2))) : up h i = up (swap h i ((i - 1) / 2)) ((i - 1) / 2) := by
  rw [up, if_pos ⟨h0, hl⟩]
theorem up_stop {h : List Tm} {i : Nat} (hl : ¬ (0 < i ∧ lt (nth_ h i) (nth_ h ((i - 1) / 2)))) : up h i = h := by rw [up, if_neg hl]
theorem down_step {h : List Tm} {i : Nat} (h0 : 2 * i + 1 < h.length) (hl : lt (nth_ h (kid h i)) (nth_ h i)) : down h i = down (swap h i (kid h i)) (kid h i) := by
  rw [down, if_pos ⟨h0, hl⟩]
theorem down_stop {h : List Tm} {i : Nat} (hl : ¬ (2 * i + 1 < h.length ∧ lt (nth_ h (kid h i)) (nth_ h i))) : down h i = h := by rw [down, if_neg hl]

theorem perm_up (h : List Tm) (i : Nat) (hi : i < h.length) : (up h i).Perm h := by
  induction i using Nat.strongRecOn generalizing h with
  | ind i ih =>
    by_cases c : 0 < i ∧ lt (nth_ h i) (nth_ h ((i - 1) / 2))
    · rw [up_step c.1 c.2]
      exact (ih _ (by omega) _ (by rw [length_swap]; omega)).trans (perm_swap hi (by omega))
    · rw [up_stop c]
theorem perm_down (h : List Tm) (i : Nat) (hi : i < h.length) : (down h i).Perm h := by
  induction hn : h.length - i using Nat.strongRecOn generalizing h i with
  | ind n ih =>
    by_cases c : 2 * i + 1 < h.length ∧ lt (nth_ h (kid h i)) (nth_ h i)
    · rw [down_step c.1 c.2]
      have k1 := kid_two h i
      have k2 := kid_lt c.1
      exact (ih (h.length - kid h i) (by omega) _ _ (by rw [length_swap]; exact k2) (by rw [length_swap])).trans (perm_swap hi k2)
    · rw [down_stop c]
theorem length_up (h : List Tm) (i : Nat) (hi : i < h.length) : (up h i).length = h.length := (perm_up h i hi).length_eq
theorem length_down (h : List Tm) (i : Nat) (hi : i < h.length) : (down h i).length = h.length := (perm_down h i hi).length_eq

/-- Nobody is less than its parent, but for the places of a set. -/
def HeapBut (h : List Tm) (S : Nat → Prop) : Prop := ∀ j, 0 < j → j < h.length → ¬ S j → ¬ lt (nth_ h j) (nth_ h ((j - 1) / 2))
def IsHeap (h : List Tm) : Prop := HeapBut h (fun _ => False)
/-- Whoever's parent is i is not less than i's parent. -/
def Bridge (h : List Tm) (i : Nat) : Prop := ∀ c, 0 < c → c < h.length → (c - 1) / 2 = i → 0 < i → ¬ lt (nth_ h c) (nth_ h ((i - 1) / 2))

theorem up_heap (h : List Tm) (i : Nat) (hi : i < h.length) (hu : HeapBut h (fun j => j = i)) (hb : Bridge h i) : IsHeap (up h i) := by
  induction i using Nat.strongRecOn generalizing h with
  | ind i ih =>
    by_cases c : 0 < i ∧ lt (nth_ h i) (nth_ h ((i - 1) / 2))
    · rw [up_step c.1 c.2]
      obtain ⟨p, hp⟩ : ∃ p, p = (i - 1) / 2 := ⟨_, rfl⟩
      rw [← hp] at c ⊢
      have hpi : p < h.length := by omega
      refine ih p (by omega) _ (by rw [length_swap]; exact hpi) (fun j hj hjl hjS => ?_) (fun k hk hkl hkp hp0 => ?_)
      · rw [length_swap] at hjl
        rw [nth_swap hi hpi, nth_swap hi hpi, if_neg hjS]
        by_cases e1 : j = i
        · subst e1
          rw [if_pos rfl, ← hp, if_pos rfl]
          exact lt_asymm c.2
        · rw [if_neg e1]
          have hjh := hu j hj hjl e1
          by_cases e2 : (j - 1) / 2 = p
          · rw [if_pos e2]
            rw [e2] at hjh
            exact nlt_trans hjh (lt_asymm c.2)
          · rw [if_neg e2]
            by_cases e3 : (j - 1) / 2 = i
            · rw [if_pos e3, hp]
              exact hb j hj hjl e3 c.1
            · rw [if_neg e3]; exact hjh
      · rw [length_swap] at hkl
        have hpp : ¬ lt (nth_ h p) (nth_ h ((p - 1) / 2)) := hu p hp0 hpi (by omega)
        rw [nth_swap hi hpi, nth_swap hi hpi, if_neg (show ¬ k = p by omega), if_neg (show ¬ (p - 1) / 2 = p by omega), if_neg (show ¬ (p - 1) / 2 = i by omega)]
        by_cases e1 : k = i
        · rw [if_pos e1]; exact hpp
        · rw [if_neg e1]
          have := hu k hk hkl e1
          rw [hkp] at this
          exact nlt_trans this hpp
    · rw [up_stop c]
      intro j hj hjl _
      by_cases e : j = i
      · subst e
        intro hl
        exact c ⟨hj, hl⟩
      · exact hu j hj hjl e

/-- The lesser kid is not greater than any kid. -/
theorem kid_min (h : List Tm) (i c : Nat) (hc : 0 < c) (hcl : c < h.length) (hp : (c - 1) / 2 = i) : ¬ lt (nth_ h c) (nth_ h (kid h i)) := by
  have hcc : c = 2 * i + 1 ∨ c = 2 * i + 2 := by omega
  unfold kid
  split
  · rename_i hk
    rcases hcc with rfl | rfl
    · exact lt_asymm hk.2
    · exact lt_irrefl _
  · rename_i hk
    rcases hcc with rfl | rfl
    · exact lt_irrefl _
    · exact fun hl => hk ⟨hcl, hl⟩

theorem down_heap (h : List Tm) (i : Nat) (hi : i < h.length) (hd : HeapBut h (fun j => (j - 1) / 2 = i)) (hb : Bridge h i) : IsHeap (down h i) := by
  induction hn : h.length - i using Nat.strongRecOn generalizing h i with
  | ind n ih =>
    by_cases c : 2 * i + 1 < h.length ∧ lt (nth_ h (kid h i)) (nth_ h i)
    · rw [down_step c.1 c.2]
      obtain ⟨k, hk⟩ : ∃ k, k = kid h i := ⟨_, rfl⟩
      have hmin := kid_min h i
      have k1 := kid_two h i
      have k2 := kid_lt c.1
      rw [← hk] at c hmin k1 k2 ⊢
      refine ih (h.length - k) (by omega) _ _ (by rw [length_swap]; exact k2) (fun j hj hjl hjS => ?_) (fun d hd0 hdl hdp _ => ?_) (by rw [length_swap])
      · rw [length_swap] at hjl
        rw [nth_swap hi k2, nth_swap hi k2, if_neg hjS]
        by_cases e1 : j = k
        · subst e1
          rw [if_pos rfl, if_pos (by omega)]
          exact lt_asymm c.2
        · rw [if_neg e1]
          by_cases e2 : j = i
          · subst e2
            rw [if_pos rfl, if_neg (show ¬ (j - 1) / 2 = j by omega)]
            exact hb k (by omega) k2 (by omega) hj
          · rw [if_neg e2]
            by_cases e3 : (j - 1) / 2 = i
            · rw [if_pos e3]; exact hmin j hj hjl e3
            · rw [if_neg e3]; exact hd j hj hjl e3
      · rw [length_swap] at hdl
        rw [nth_swap hi k2, nth_swap hi k2, if_neg (show ¬ d = k by omega), if_neg (show ¬ d = i by omega), if_neg (show ¬ (k - 1) / 2 = k by omega), if_pos (show (k - 1) / 2 = i by omega)]
        have := hd d hd0 hdl (by omega)
        rw [hdp] at this
        exact this
    · rw [down_stop c]
      intro j hj hjl _
      by_cases e : (j - 1) / 2 = i
      · intro hl
        rw [e] at hl
        have hjk : ¬ lt (nth_ h (kid h i)) (nth_ h i) := fun hh => c ⟨by omega, hh⟩
        exact nlt_trans (kid_min h i j hj hjl e) hjk hl
      · exact hd j hj hjl e

/-- Whatever stands at i: down, then up, mends it. -/
theorem mend (h : List Tm) (i : Nat) (hi : i < h.length) (he : HeapBut h (fun j => j = i ∨ (j - 1) / 2 = i)) (hb : Bridge h i) : IsHeap (up (down h i) i) := by
  by_cases c : 2 * i + 1 < h.length ∧ lt (nth_ h (kid h i)) (nth_ h i)
  · have hh : IsHeap (down h i) := by
      rw [down_step c.1 c.2]
      obtain ⟨k, hk⟩ : ∃ k, k = kid h i := ⟨_, rfl⟩
      have hmin := kid_min h i
      have k1 := kid_two h i
      have k2 := kid_lt c.1
      rw [← hk] at c hmin k1 k2 ⊢
      refine down_heap _ k (by rw [length_swap]; exact k2) (fun j hj hjl hjS => ?_) (fun d hd0 hdl hdp _ => ?_)
      · rw [length_swap] at hjl
        rw [nth_swap hi k2, nth_swap hi k2, if_neg hjS]
        by_cases e1 : j = k
        · subst e1
          rw [if_pos rfl, if_pos (by omega)]
          exact lt_asymm c.2
        · rw [if_neg e1]
          by_cases e2 : j = i
          · subst e2
            rw [if_pos rfl, if_neg (show ¬ (j - 1) / 2 = j by omega)]
            exact hb k (by omega) k2 (by omega) hj
          · rw [if_neg e2]
            by_cases e3 : (j - 1) / 2 = i
            · rw [if_pos e3]; exact hmin j hj hjl e3
            · rw [if_neg e3]; exact he j hj hjl (by omega)
      · rw [length_swap] at hdl
        rw [nth_swap hi k2, nth_swap hi k2, if_neg (show ¬ d = k by omega), if_neg (show ¬ d = i by omega), if_neg (show ¬ (k - 1) / 2 = k by omega), if_pos (show (k - 1) / 2 = i by omega)]
        have := he d hd0 hdl (by omega)
        rw [hdp] at this
        exact this
    have hl : i < (down h i).length := by rw [length_down h i hi]; exact hi
    rw [up_stop (fun hc => hh i hc.1 hl id hc.2)]
    exact hh
  · rw [down_stop c]
    refine up_heap h i hi (fun j hj hjl hjS => ?_) hb
    by_cases e : (j - 1) / 2 = i
    · intro hl
      rw [e] at hl
      exact nlt_trans (kid_min h i j hj hjl e) (fun hh => c ⟨by omega, hh⟩) hl
    · exact he j hj hjl (by omega)

theorem nth_append_lt {h : List Tm} {x : Tm} {j : Nat} (hj : j < h.length) : nth_ (h ++ [x]) j = nth_ h j := by
  unfold nth_; simp [List.getD_eq_getElem?_getD, List.getElem?_append_left hj]
theorem nth_append_eq (h : List Tm) (x : Tm) : nth_ (h ++ [x]) h.length = x := by
  unfold nth_; simp [List.getD_eq_getElem?_getD]
/-- One more. -/
theorem push_heap {h : List Tm} (hh : IsHeap h) (x : Tm) : IsHeap (up (h ++ [x]) h.length) := by
  refine up_heap _ _ (by simp) (fun j hj hjl hjS => ?_) (fun c hc hcl hp _ => ?_)
  · rw [List.length_append, List.length_singleton] at hjl
    rw [nth_append_lt (by omega), nth_append_lt (by omega)]
    exact hh j hj (by omega) id
  · rw [List.length_append, List.length_singleton] at hcl
    omega
theorem perm_push (h : List Tm) (x : Tm) : (up (h ++ [x]) h.length).Perm (h ++ [x]) := perm_up _ _ (by simp)

/-- The last takes the i'th one's place. -/
def cutAt (h : List Tm) (i : Nat) : List Tm := (h.set i (nth_ h (h.length - 1))).dropLast
def takeH (h : List Tm) (i : Nat) : List Tm := if i < h.length - 1 then up (down (cutAt h i) i) i else cutAt h i
theorem length_cut (h : List Tm) (i : Nat) : (cutAt h i).length = h.length - 1 := by simp [cutAt]
theorem nth_dropLast {h : List Tm} {j : Nat} (hj : j < h.length - 1) : nth_ h.dropLast j = nth_ h j := by
  rw [nth_eq (by rw [List.length_dropLast]; exact hj), nth_eq (by omega)]; simp
theorem nth_cut (h : List Tm) (i j : Nat) (hj : j < h.length - 1) : nth_ (cutAt h i) j = if i = j then nth_ h (h.length - 1) else nth_ h j := by
  unfold cutAt
  rw [nth_dropLast (by simpa using hj), nth_set]
  by_cases e : i = j
  · rw [if_pos ⟨e, by omega⟩, if_pos e]
  · rw [if_neg (by omega), if_neg e]
/-- Parents along: whoever stands below i is not less. -/
theorem take_heap {h : List Tm} (hh : IsHeap h) (i : Nat) (hi : i < h.length) : IsHeap (takeH h i) := by
  unfold takeH
  by_cases c : i < h.length - 1
  · rw [if_pos c]
    refine mend _ i (by rw [length_cut]; exact c) (fun j hj hjl hjS => ?_) (fun d hd hdl hdp hi0 => ?_)
    · rw [length_cut] at hjl
      rw [nth_cut _ _ _ hjl, nth_cut _ _ _ (by omega), if_neg (by omega), if_neg (by omega)]
      exact hh j hj (by omega) id
    · rw [length_cut] at hdl
      rw [nth_cut _ _ _ hdl, nth_cut _ _ _ (by omega), if_neg (by omega), if_neg (by omega)]
      have h1 := hh d hd (by omega) id
      have h2 := hh i hi0 hi id
      rw [hdp] at h1
      exact nlt_trans h1 h2
  · rw [if_neg c]
    intro j hj hjl _
    rw [length_cut] at hjl
    rw [nth_cut _ _ _ hjl, nth_cut _ _ _ (by omega), if_neg (by omega), if_neg (by omega)]
    exact hh j hj (by omega) id
theorem perm_cut (h : List Tm) (i : Nat) (hi : i < h.length) : h.Perm (nth_ h i :: cutAt h i) := by
  have hne : h ≠ [] := fun e => by rw [e] at hi; simp at hi
  obtain ⟨l, x, rfl⟩ : ∃ l x, h = l ++ [x] := ⟨h.dropLast, h.getLast hne, (List.dropLast_concat_getLast hne).symm⟩
  have hlen : (l ++ [x]).length - 1 = l.length := by simp
  unfold cutAt
  rw [hlen, nth_append_eq]
  by_cases c : i < l.length
  · rw [nth_append_lt c, List.set_append_left _ _ c, List.dropLast_concat, nth_eq c]
    have h1 : (l.set i x ++ [l[i]]).Perm (l ++ [x]) := by
      have h2 := List.set_set_perm (as := l ++ [x]) (i := i) (j := l.length) (by simp; omega) (by simp)
      have e1 : (l ++ [x])[l.length]'(by simp) = x := by simp
      have e2 : (l ++ [x])[i]'(by simp; omega) = l[i] := by simp [List.getElem_append_left c]
      rw [e1, e2, List.set_append_left _ _ c, List.set_append_right _ _ (by simp)] at h2
      simpa using h2
    exact h1.symm.trans (List.perm_append_comm.trans (by simp))
  · have hil : i = l.length := by simp at hi; omega
    subst hil
    rw [nth_append_eq, List.set_append_right _ _ (Nat.le_refl _)]
    simp
theorem perm_take (h : List Tm) (i : Nat) (hi : i < h.length) : h.Perm (nth_ h i :: takeH h i) := by
  refine (perm_cut h i hi).trans (List.Perm.cons _ ?_)
  unfold takeH
  by_cases c : i < h.length - 1
  · rw [if_pos c]
    have hl : i < (cutAt h i).length := by rw [length_cut]; exact c
    exact ((perm_up _ _ (by rw [length_down _ _ hl]; exact hl)).trans (perm_down _ _ hl)).symm
  · rw [if_neg c]
theorem length_take {h : List Tm} {i : Nat} (hi : i < h.length) : (takeH h i).length + 1 = h.length := by
  have := (perm_take h i hi).length_eq; simpa using this.symm

/-- The root is not greater than any. -/
theorem root_min {h : List Tm} (hh : IsHeap h) (j : Nat) (hj : j < h.length) : ¬ lt (nth_ h j) (nth_ h 0) := by
  induction j using Nat.strongRecOn with
  | ind j ih =>
    by_cases c : j = 0
    · subst c; exact lt_irrefl _
    · exact nlt_trans (hh j (by omega) hj id) (ih _ (by omega) (by omega))
theorem root_min_mem {h : List Tm} (hh : IsHeap h) (t : Tm) (ht : t ∈ h) : ¬ lt t (nth_ h 0) := by
  obtain ⟨j, hj, e⟩ := List.getElem_of_mem ht
  rw [← e, ← nth_eq hj]
  exact root_min hh j hj
end Go.Proofs.Ytbbihkddogbicaa
