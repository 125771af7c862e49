/- A request's attempts, as plain data: what fails, what is tried again, what time does. No program in sight. -/
namespace Go.Proofs.Ytlcblfkmadjppaa
set_option linter.unusedVariables false

structure Pl where
  retries : Nat
  hedges : Nat
  after : Nat
  per : Nat
  total : Nat
  safe : Bool
deriving DecidableEq
structure Run where
  id : Nat
  since : Nat
deriving DecidableEq, Inhabited
structure Ac where
  kind : Int
  id : Int
  n : Int
deriving DecidableEq, Inhabited
structure Rq where
  pl : Pl
  since : Nat
  last : Nat
  made : Nat
  again : Nat
  hedged : Nat
  runs : List Run
  over : Bool
  tame : Bool
deriving DecidableEq

def tick62 : Nat := 4611686018427387904
def later (t d : Nat) : Nat := if t + d ≤ 4611686018427387904 then t + d else 4611686018427387904
theorem later_le (t d : Nat) : later t d ≤ 4611686018427387904 := by unfold later; split <;> omega

def tryR (r : Rq) (now : Nat) : Rq := { r with runs := r.runs ++ [⟨r.made, now⟩], made := r.made + 1, last := now }
def keep (l : List Run) (id : Int) : List Run := l.filter fun x => (x.id : Int) != id
def endR (r : Rq) (id : Int) : Rq := { r with runs := keep r.runs id }
def mayR (r : Rq) (why : Int) (allow : Bool) : Bool := decide (r.again < r.pl.retries) && allow && (r.pl.safe || why == 1 || why == 4)
def statusOf (why : Int) : Int := if why = 2 then 502 else if why = 3 then 504 else 503
def againR (r : Rq) (now : Nat) : Rq := tryR { r with again := r.again + 1 } now
def failsR (r : Rq) (now : Nat) (id why : Int) (allow : Bool) : Rq × List Ac :=
  if keep r.runs id ≠ [] then (endR r id, [])
  else if mayR r why allow then (againR (endR r id) now, [⟨1, r.made, 1⟩])
  else ({ endR r id with over := true }, [⟨4, id, statusOf why⟩])
def hasR (r : Rq) (id : Int) : Bool := !r.over && r.runs.any fun x => (x.id : Int) == id
def badS (status : Int) : Bool := decide (502 ≤ status) && decide (status ≤ 504)
def cancels (l : List Run) : List Ac := l.map fun x => ⟨2, x.id, 0⟩
def headR (r : Rq) (now : Nat) (id status : Int) (allow : Bool) : Rq × List Ac :=
  if badS status && (mayR r 5 allow || decide (1 < r.runs.length)) then
    if keep r.runs id ≠ [] then (endR r id, [⟨2, id, 0⟩])
    else (againR (endR r id) now, [⟨2, id, 0⟩, ⟨1, r.made, 1⟩])
  else ({ r with over := true, runs := [] }, cancels (keep r.runs id) ++ [⟨3, id, 0⟩])
def hedging (r : Rq) : Bool := !r.tame && decide (r.hedged < r.pl.hedges) && decide (0 < r.runs.length)
/-- One of those that ran when time went by. -/
def late1 (now : Nat) (allow : Bool) (s : Rq × List Ac) (x : Run) : Rq × List Ac :=
  if later x.since s.1.pl.per ≤ now then ((failsR s.1 now x.id 3 allow).1, s.2 ++ [⟨2, x.id, 0⟩] ++ (failsR s.1 now x.id 3 allow).2) else s
def lates (now : Nat) (allow : Bool) (l : List Run) (s : Rq × List Ac) : Rq × List Ac := l.foldl (late1 now allow) s
def hedgeR (r : Rq) (now : Nat) (allow : Bool) : Rq × List Ac :=
  if !r.over && hedging r && decide (later r.last r.pl.after ≤ now) then
    if allow then (tryR { r with hedged := r.hedged + 1 } now, [⟨1, r.made, 2⟩]) else ({ r with tame := true }, [])
  else (r, [])
def timeR (r : Rq) (now : Nat) (allow : Bool) : Rq × List Ac :=
  if r.over then (r, [])
  else if later r.since r.pl.total ≤ now then ({ r with over := true, runs := [] }, cancels r.runs ++ [⟨4, -1, 504⟩])
  else ((hedgeR (lates now allow r.runs (r, [])).1 now allow).1, (lates now allow r.runs (r, [])).2 ++ (hedgeR (lates now allow r.runs (r, [])).1 now allow).2)

structure Okq (r : Rq) : Prop where
  p1 : r.pl.retries ≤ 5
  p2 : r.pl.hedges ≤ 3
  p3 : 1 ≤ r.pl.after ∧ r.pl.after ≤ 1000000
  p4 : 1 ≤ r.pl.per ∧ r.pl.per ≤ 1000000
  p5 : 1 ≤ r.pl.total ∧ r.pl.total ≤ 1000000
  a1 : r.again ≤ r.pl.retries
  a2 : r.hedged ≤ r.pl.hedges
  made : r.made = 1 + r.again + r.hedged
  ids : r.runs.Pairwise fun a b => a.id < b.id
  lt : ∀ x ∈ r.runs, x.id < r.made
  t1 : r.since ≤ 4611686018427387904
  t2 : r.last ≤ 4611686018427387904
  t3 : ∀ x ∈ r.runs, x.since ≤ 4611686018427387904
  over_ : r.over = true → r.runs = []
  live : r.over = false → r.runs ≠ []

theorem pair_len : ∀ (l : List Run) (a n : Nat), l.Pairwise (fun x y => x.id < y.id) → (∀ x ∈ l, a ≤ x.id ∧ x.id < n) → l.length + a ≤ n ∨ l = []
  | [], _, _, _, _ => .inr rfl
  | x :: r, a, n, h, hb => by
    obtain ⟨h1, h2⟩ := List.pairwise_cons.1 h
    have hx := hb x (List.mem_cons_self ..)
    rcases pair_len r (x.id + 1) n h2 (fun y hy => ⟨h1 y hy, (hb y (List.mem_cons_of_mem _ hy)).2⟩) with e | e
    · left; simp only [List.length_cons]; omega
    · left; subst e; simp only [List.length_cons, List.length_nil]; omega
theorem Okq.made9 {r : Rq} (h : Okq r) : r.made ≤ 9 := by have := h.p1; have := h.p2; have := h.a1; have := h.a2; have := h.made; omega
theorem Okq.len {r : Rq} (h : Okq r) : r.runs.length ≤ r.made := by
  rcases pair_len r.runs 0 r.made h.ids (fun x hx => ⟨Nat.zero_le _, h.lt x hx⟩) with e | e
  · omega
  · rw [e]; exact Nat.zero_le _
theorem Okq.len9 {r : Rq} (h : Okq r) : r.runs.length ≤ 9 := Nat.le_trans h.len h.made9
theorem mem_keep {l : List Run} {id : Int} {x : Run} : x ∈ keep l id ↔ x ∈ l ∧ (x.id : Int) ≠ id := by simp [keep]
theorem keep_len (l : List Run) (id : Int) : (keep l id).length ≤ l.length := List.length_filter_le _ _
theorem keep_sub (l : List Run) (id : Int) : (keep l id).Sublist l := List.filter_sublist
/-- All but that something runs. -/
structure Okw (r : Rq) : Prop where
  p1 : r.pl.retries ≤ 5
  p2 : r.pl.hedges ≤ 3
  p3 : 1 ≤ r.pl.after ∧ r.pl.after ≤ 1000000
  p4 : 1 ≤ r.pl.per ∧ r.pl.per ≤ 1000000
  p5 : 1 ≤ r.pl.total ∧ r.pl.total ≤ 1000000
  a1 : r.again ≤ r.pl.retries
  a2 : r.hedged ≤ r.pl.hedges
  made : r.made = 1 + r.again + r.hedged
  ids : r.runs.Pairwise fun a b => a.id < b.id
  lt : ∀ x ∈ r.runs, x.id < r.made
  t1 : r.since ≤ 4611686018427387904
  t2 : r.last ≤ 4611686018427387904
  t3 : ∀ x ∈ r.runs, x.since ≤ 4611686018427387904
  over_ : r.over = true → r.runs = []
theorem Okq.w {r : Rq} (h : Okq r) : Okw r := ⟨h.p1, h.p2, h.p3, h.p4, h.p5, h.a1, h.a2, h.made, h.ids, h.lt, h.t1, h.t2, h.t3, h.over_⟩
theorem Okw.q {r : Rq} (h : Okw r) (hl : r.over = false → r.runs ≠ []) : Okq r := ⟨h.p1, h.p2, h.p3, h.p4, h.p5, h.a1, h.a2, h.made, h.ids, h.lt, h.t1, h.t2, h.t3, h.over_, hl⟩
theorem Okw.made9 {r : Rq} (h : Okw r) : r.made ≤ 9 := by have := h.p1; have := h.p2; have := h.a1; have := h.a2; have := h.made; omega
theorem Okw.len {r : Rq} (h : Okw r) : r.runs.length ≤ r.made := by
  rcases pair_len r.runs 0 r.made h.ids (fun x hx => ⟨Nat.zero_le _, h.lt x hx⟩) with e | e
  · omega
  · rw [e]; exact Nat.zero_le _
theorem Okw.len9 {r : Rq} (h : Okw r) : r.runs.length ≤ 9 := Nat.le_trans h.len h.made9
theorem Okw.sub {r : Rq} (h : Okw r) {l : List Run} (hs : l.Sublist r.runs) : Okw { r with runs := l } :=
  ⟨h.p1, h.p2, h.p3, h.p4, h.p5, h.a1, h.a2, h.made, h.ids.sublist hs, fun x hx => h.lt x (hs.subset hx), h.t1, h.t2, fun x hx => h.t3 x (hs.subset hx), fun ho => by
    have := h.over_ ho
    rw [this] at hs
    exact List.eq_nil_of_sublist_nil hs⟩
theorem Okq.of_end {r : Rq} (h : Okq r) (id : Int) : Okw (endR r id) := h.w.sub (keep_sub _ _)
theorem mayR_iff {r : Rq} {why : Int} {allow : Bool} (h : mayR r why allow = true) : r.again < r.pl.retries := by
  unfold mayR at h
  simp only [Bool.and_eq_true, decide_eq_true_eq] at h
  exact h.1.1
/-- One more of either kind. -/
theorem Okw.of_try {r : Rq} (h : Okw r) {r2 : Rq} (now : Nat) (hn : now ≤ 4611686018427387904) (ho : r.over = false) (e : r2.pl = r.pl ∧ r2.since = r.since ∧ r2.made = r.made + 1 ∧ r2.runs = r.runs ++ [⟨r.made, now⟩] ∧ r2.last = now ∧ r2.over = r.over)
    (e2 : (r2.again = r.again + 1 ∧ r2.hedged = r.hedged ∧ r.again < r.pl.retries) ∨ (r2.again = r.again ∧ r2.hedged = r.hedged + 1 ∧ r.hedged < r.pl.hedges)) : Okq r2 := by
  obtain ⟨c1, c2, c3, c4, c5, c6⟩ := e
  have hm := h.made
  have ha1 := h.a1
  have ha2 := h.a2
  refine ⟨by rw [c1]; exact h.p1, by rw [c1]; exact h.p2, by rw [c1]; exact h.p3, by rw [c1]; exact h.p4, by rw [c1]; exact h.p5, by rw [c1]; omega, by rw [c1]; omega, by omega, ?_, ?_, by rw [c2]; exact h.t1, by omega, ?_, (fun hh => by rw [c6, ho] at hh; cases hh), fun _ => by rw [c4]; simp⟩
  · rw [c4]
    refine List.pairwise_append.2 ⟨h.ids, List.pairwise_singleton _ _, fun a ha b hb => ?_⟩
    rw [List.mem_singleton.1 hb]
    exact h.lt a ha
  · rw [c4, c3]
    intro x hx
    rcases List.mem_append.1 hx with hx | hx
    · have := h.lt x hx; omega
    · rw [List.mem_singleton.1 hx]; exact Nat.lt_succ_self _
  · rw [c4]
    intro x hx
    rcases List.mem_append.1 hx with hx | hx
    · exact h.t3 x hx
    · rw [List.mem_singleton.1 hx]; exact hn
theorem Okq.of_again {r : Rq} (h : Okq r) (id : Int) (now : Nat) (hn : now ≤ 4611686018427387904) (ho : r.over = false) (hm : r.again < r.pl.retries) : Okq (againR (endR r id) now) :=
  (h.of_end id).of_try now hn ho ⟨rfl, rfl, rfl, rfl, rfl, rfl⟩ (.inl ⟨rfl, rfl, hm⟩)
theorem Okq.of_over {r : Rq} (h : Okq r) : Okq { r with over := true, runs := [] } :=
  ⟨h.p1, h.p2, h.p3, h.p4, h.p5, h.a1, h.a2, h.made, List.Pairwise.nil, fun x hx => (by cases hx), h.t1, h.t2, fun x hx => (by cases hx), fun _ => rfl, fun h => (by cases h)⟩
theorem Okq.of_fails {r : Rq} (h : Okq r) (now : Nat) (hn : now ≤ 4611686018427387904) (id why : Int) (allow : Bool) (ho : r.over = false) : Okq (failsR r now id why allow).1 := by
  unfold failsR
  by_cases h1 : keep r.runs id ≠ []
  · rw [if_pos h1]; exact (h.of_end id).q (fun _ => h1)
  · rw [if_neg h1]
    have e : keep r.runs id = [] := Classical.not_not.1 h1
    by_cases h2 : mayR r why allow = true
    · rw [if_pos h2]; exact h.of_again id now hn ho (mayR_iff h2)
    · rw [if_neg h2]
      have hw := h.of_end id
      exact ⟨h.p1, h.p2, h.p3, h.p4, h.p5, h.a1, h.a2, h.made, hw.ids, hw.lt, h.t1, h.t2, hw.t3, fun _ => e, fun hh => by cases hh⟩
theorem keep_two {l : List Run} (hp : l.Pairwise fun a b => a.id < b.id) {id : Int} (hl : 1 < l.length) : keep l id ≠ [] := by
  match l, hl with
  | a :: b :: l, _ =>
    intro e
    have hab := (List.pairwise_cons.1 hp).1 b (List.mem_cons_self ..)
    have ha : (a.id : Int) = id := by
      by_cases c : (a.id : Int) = id
      · exact c
      · have : a ∈ keep (a :: b :: l) id := mem_keep.2 ⟨List.mem_cons_self .., c⟩
        rw [e] at this; cases this
    have hbb : (b.id : Int) = id := by
      by_cases c : (b.id : Int) = id
      · exact c
      · have : b ∈ keep (a :: b :: l) id := mem_keep.2 ⟨List.mem_cons_of_mem _ (List.mem_cons_self ..), c⟩
        rw [e] at this; cases this
    omega
theorem hasR_over {r : Rq} {id : Int} (hh : hasR r id = true) : r.over = false := by unfold hasR at hh; simp at hh; exact hh.1
theorem Okq.of_head {r : Rq} (h : Okq r) (now : Nat) (hn : now ≤ 4611686018427387904) (id status : Int) (allow : Bool) (hh : hasR r id = true) : Okq (headR r now id status allow).1 := by
  have ho := hasR_over hh
  unfold headR
  split
  · rename_i hb
    split
    · rename_i hk
      exact (h.of_end id).q (fun _ => hk)
    · rename_i hk
      have e : keep r.runs id = [] := Classical.not_not.1 hk
      refine h.of_again id now hn ho ?_
      simp only [Bool.and_eq_true, Bool.or_eq_true, decide_eq_true_eq] at hb
      rcases hb.2 with hm | hl
      · exact mayR_iff hm
      · exact absurd e (keep_two h.ids hl)
  · exact h.of_over
/-- Who is late. -/
def isLate (per now : Nat) (x : Run) : Bool := decide (later x.since per ≤ now)
/-- Those that run still, when the first j were seen to. -/
def filt (per now : Nat) (l : List Run) (j : Nat) : List Run := (l.take j).filter (fun x => !isLate per now x) ++ l.drop j
theorem filt_zero (per now : Nat) (l : List Run) : filt per now l 0 = l := rfl
theorem filt_all (per now : Nat) (l : List Run) : filt per now l l.length = l.filter (fun x => !isLate per now x) := by simp [filt]
theorem filt_sub (per now : Nat) (l : List Run) (j : Nat) : (filt per now l j).Sublist l := by
  have h : ((l.take j).filter (fun x => !isLate per now x) ++ l.drop j).Sublist (l.take j ++ l.drop j) := List.filter_sublist.append (List.Sublist.refl _)
  rwa [List.take_append_drop] at h
theorem filt_keep {per now : Nat} {l : List Run} (hp : l.Pairwise fun a b => a.id < b.id) {j : Nat} (hj : j < l.length) (hl : isLate per now l[j] = true) : keep (filt per now l j) (l[j].id : Int) = filt per now l (j + 1) := by
  unfold filt keep
  have hsplit : l = l.take j ++ l[j] :: l.drop (j + 1) := by rw [← List.drop_eq_getElem_cons hj, List.take_append_drop]
  have hp2 := hp
  rw [hsplit] at hp2
  obtain ⟨_, h2, h3⟩ := List.pairwise_append.1 hp2
  have h4 := (List.pairwise_cons.1 h2).1
  rw [List.filter_append, List.drop_eq_getElem_cons hj, List.filter_cons_of_neg (by simp), List.take_succ_eq_append_getElem hj, List.filter_append]
  rw [show List.filter (fun x => !isLate per now x) [l[j]] = [] by simp [hl], List.append_nil]
  congr 1
  · rw [List.filter_eq_self]
    intro x hx
    have := h3 x (List.mem_filter.1 hx).1 l[j] (List.mem_cons_self ..)
    simp; omega
  · rw [List.filter_eq_self]
    intro x hx
    have := h4 x hx
    simp; omega
theorem filt_skip {per now : Nat} {l : List Run} {j : Nat} (hj : j < l.length) (hl : isLate per now l[j] = false) : filt per now l (j + 1) = filt per now l j := by
  unfold filt
  rw [List.take_succ_eq_append_getElem hj, List.filter_append, List.drop_eq_getElem_cons hj, show List.filter (fun x => !isLate per now x) [l[j]] = [l[j]] by simp [hl], List.append_assoc]
  rfl
theorem lates_take (now : Nat) (allow : Bool) (l : List Run) (s : Rq × List Ac) (j : Nat) (hj : j < l.length) : lates now allow (l.take (j + 1)) s = late1 now allow (lates now allow (l.take j) s) l[j] := by
  unfold lates
  rw [List.take_succ_eq_append_getElem hj, List.foldl_append]
  rfl
/-- As long as one is left that is not late, or not seen to. -/
theorem lates_mid {r : Rq} (h : Okq r) (now : Nat) (allow : Bool) : ∀ j, j ≤ r.runs.length → (∀ i, i ≤ j → filt r.pl.per now r.runs i ≠ []) →
    lates now allow (r.runs.take j) (r, []) = ({ r with runs := filt r.pl.per now r.runs j }, cancels ((r.runs.take j).filter (isLate r.pl.per now)))
  | 0, _, _ => rfl
  | j + 1, hj, hne => by
    rw [lates_take _ _ _ _ _ (by omega), lates_mid h now allow j (by omega) (fun i hi => hne i (by omega))]
    unfold late1
    show (if later r.runs[j].since r.pl.per ≤ now then _ else _) = _
    cases hl : isLate r.pl.per now (r.runs[j]'(by omega)) with
    | false =>
      rw [if_neg (of_decide_eq_false hl), filt_skip (by omega) hl, List.take_succ_eq_append_getElem (by omega), List.filter_append]
      simp [hl]
    | true =>
      rw [if_pos (of_decide_eq_true hl)]
      have hk := filt_keep h.ids (show j < r.runs.length by omega) hl
      have hne2 := hne (j + 1) (Nat.le_refl _)
      rw [← hk] at hne2
      unfold failsR
      show ((if keep (filt r.pl.per now r.runs j) _ ≠ [] then _ else _ : Rq × List Ac).1, _) = _
      rw [if_pos hne2, List.take_succ_eq_append_getElem (show j < r.runs.length by omega), List.filter_append]
      unfold endR
      show ({ r with runs := keep (filt r.pl.per now r.runs j) _ }, _) = _
      rw [hk, show List.filter (isLate r.pl.per now) [r.runs[j]'(by omega)] = [r.runs[j]'(by omega)] by simp [hl]]
      unfold cancels
      rw [List.map_append]
      simp
theorem filt_ne {per now : Nat} {l : List Run} {j : Nat} (hj : j < l.length) : filt per now l j ≠ [] := by
  intro e
  have := congrArg List.length e
  unfold filt at this
  rw [List.length_append, List.length_drop] at this
  simp at this
  omega
/-- Ahead of each of them: it is still right. -/
theorem Okq.of_lates {r : Rq} (h : Okq r) (now : Nat) (allow : Bool) {j : Nat} (hj : j < r.runs.length) : Okq (lates now allow (r.runs.take j) (r, [])).1 ∧ (lates now allow (r.runs.take j) (r, [])).1.over = r.over ∧ (lates now allow (r.runs.take j) (r, [])).2.length ≤ 9 ∧ (lates now allow (r.runs.take j) (r, [])).1.pl = r.pl := by
  rw [lates_mid h now allow j (by omega) (fun i hi => filt_ne (by omega))]
  refine ⟨(h.w.sub (filt_sub _ _ _ _)).q (fun _ => filt_ne hj), rfl, ?_, rfl⟩
  have := h.len9
  unfold cancels
  rw [List.length_map]
  have h2 := List.length_filter_le (isLate r.pl.per now) (r.runs.take j)
  rw [List.length_take] at h2
  show (List.filter _ _).length ≤ 9
  omega
end Go.Proofs.Ytlcblfkmadjppaa
