/- What AttemptBounds counts, as plain data. -/
import Derived.Test.YtlcblfkmadjppaaPlain3
namespace Go.Proofs.Ytlcblfkmadjppaa
set_option linter.unusedVariables false

/-- What the law has counted: attempts made, answers, which run. -/
structure Bs where
  made : Nat
  ans : Nat
  run : List Bool
structure OkAct (s : Bs) (y : Ac) : Prop where
  ans : s.ans = 0
  id : 0 ≤ y.id ∧ y.id < 16 ∨ y.id < 0 ∧ y.kind = 4
  kind : y.kind = 1 ∨ y.kind = 2 ∨ y.kind = 3 ∨ y.kind = 4
  try_ : y.kind = 1 → y.id = s.made ∧ (y.n = 1 ∨ y.n = 2)
  let_ : y.kind = 2 ∨ y.kind = 3 → 0 ≤ y.id ∧ s.run.getD y.id.toNat false = true
def nextS (s : Bs) (y : Ac) : Bs :=
  if y.kind = 1 then ⟨s.made + 1, s.ans, s.run.set y.id.toNat true⟩
  else if y.kind = 2 then ⟨s.made, s.ans, s.run.set y.id.toNat false⟩
  else if y.kind = 3 then ⟨s.made, s.ans + 1, s.run.set y.id.toNat false⟩
  else ⟨s.made, s.ans + 1, s.run⟩
inductive Seq : Bs → List Ac → Bs → Prop
  | nil (s : Bs) : Seq s [] s
  | cons {s : Bs} {y : Ac} {l : List Ac} {t : Bs} (h : OkAct s y) (hs : Seq (nextS s y) l t) : Seq s (y :: l) t
theorem Seq.append {s t u : Bs} {a b : List Ac} (h : Seq s a t) (k : Seq t b u) : Seq s (a ++ b) u := by
  induction h with
  | nil => exact k
  | cons h _ ih => exact .cons h (ih k)
theorem Seq.one {s : Bs} {y : Ac} (h : OkAct s y) : Seq s [y] (nextS s y) := .cons h (.nil _)
/-- What stands between two steps. -/
structure Good (r : Rq) (s : Bs) : Prop where
  made : s.made = r.made
  ans : s.ans = if r.over then 1 else 0
  run : r.over = false → ∀ x ∈ r.runs, s.run.getD x.id false = true
  len : s.run.length = 16
theorem getD_set' (l : List Bool) (i j : Nat) (b : Bool) (hi : i < l.length) : (l.set i b).getD j false = if i = j then b else l.getD j false := by
  simp only [List.getD_eq_getElem?_getD, List.getElem?_set]
  by_cases e : i = j
  · subst e; simp [hi]
  · simp [e]

theorem Good.of_end {r : Rq} {s : Bs} (h : Good r s) (id : Int) : Good (endR r id) s := ⟨h.made, h.ans, fun ho x hx => h.run ho x (mem_keep.1 hx).1, h.len⟩
/-- One of those that run is let go. -/
theorem Good.cancel {r : Rq} (hok : Okw r) {s : Bs} (h : Good r s) (ho : r.over = false) {x : Run} (hx : x ∈ r.runs) : Seq s [⟨2, x.id, 0⟩] ⟨s.made, s.ans, s.run.set x.id false⟩ ∧ Good (endR r x.id) ⟨s.made, s.ans, s.run.set x.id false⟩ := by
  have hlt := hok.lt x hx
  have hm := hok.made9
  refine ⟨?_, h.made, h.ans, fun _ y hy => ?_, by show (s.run.set _ _).length = 16; rw [List.length_set]; exact h.len⟩
  · exact Seq.one ⟨by have := h.ans; rw [ho] at this; exact this, .inl ⟨by show (0 : Int) ≤ x.id; omega, by show (x.id : Int) < 16; omega⟩, .inr (.inl rfl), (fun e => by cases e), fun _ => ⟨by show (0 : Int) ≤ x.id; omega, h.run ho x hx⟩⟩
  · obtain ⟨h1, h2⟩ := mem_keep.1 hy
    show (s.run.set x.id false).getD y.id false = true
    rw [getD_set' _ _ _ _ (by rw [h.len]; omega), if_neg (fun e => h2 (by rw [e]))]
    exact h.run ho y h1
/-- A new one runs. -/
theorem Good.tried {r r2 : Rq} (hok : Okw r) {s : Bs} (h : Good r s) (ho : r.over = false) {n : Int} (hn : n = 1 ∨ n = 2) {now : Nat} (e : r2.made = r.made + 1 ∧ r2.runs = r.runs ++ [⟨r.made, now⟩] ∧ r2.over = r.over) :
    Seq s [⟨1, r.made, n⟩] ⟨s.made + 1, s.ans, s.run.set r.made true⟩ ∧ Good r2 ⟨s.made + 1, s.ans, s.run.set r.made true⟩ := by
  have hm := hok.made9
  obtain ⟨e1, e2, e3⟩ := e
  refine ⟨?_, by show s.made + 1 = r2.made; rw [h.made, e1], by rw [e3]; exact h.ans, fun _ y hy => ?_, by show (s.run.set _ _).length = 16; rw [List.length_set]; exact h.len⟩
  · exact Seq.one ⟨by have := h.ans; rw [ho] at this; exact this, .inl ⟨by show (0 : Int) ≤ r.made; omega, by show (r.made : Int) < 16; omega⟩, .inl rfl, fun _ => ⟨by show (r.made : Int) = s.made; rw [h.made], hn⟩, fun e => by rcases e with e | e <;> cases e⟩
  · show (s.run.set r.made true).getD y.id false = true
    rw [getD_set' _ _ _ _ (by rw [h.len]; omega)]
    split
    · rfl
    · rename_i hne
      rw [e2] at hy
      rcases List.mem_append.1 hy with hy | hy
      · exact h.run ho y hy
      · rw [List.mem_singleton.1 hy] at hne; exact absurd rfl hne
/-- An answer: nothing behind it. -/
theorem Good.answer {r r2 : Rq} {s : Bs} (h : Good r s) (ho : r.over = false) {id n : Int} (hid : id < 16) (e : r2.made = r.made ∧ r2.over = true) : Seq s [⟨4, id, n⟩] ⟨s.made, s.ans + 1, s.run⟩ ∧ Good r2 ⟨s.made, s.ans + 1, s.run⟩ := by
  have h0 : s.ans = 0 := by have := h.ans; rw [ho] at this; exact this
  refine ⟨?_, by show s.made = _; rw [e.1]; exact h.made, by rw [e.2, h0]; rfl, (fun hh => by rw [e.2] at hh; cases hh), h.len⟩
  refine Seq.one ⟨h0, ?_, .inr (.inr (.inr rfl)), (fun e => by cases e), fun e => by rcases e with e | e <;> cases e⟩
  by_cases hc : 0 ≤ id
  · exact .inl ⟨hc, hid⟩
  · exact .inr ⟨by show id < 0; omega, rfl⟩
theorem Good.win {r r2 : Rq} (hok : Okw r) {s : Bs} (h : Good r s) (ho : r.over = false) {x : Run} (hx : s.run.getD x.id false = true) (hlt : x.id < r.made) (e : r2.made = r.made ∧ r2.over = true) :
    Seq s [⟨3, x.id, 0⟩] ⟨s.made, s.ans + 1, s.run.set x.id false⟩ ∧ Good r2 ⟨s.made, s.ans + 1, s.run.set x.id false⟩ := by
  have h0 : s.ans = 0 := by have := h.ans; rw [ho] at this; exact this
  have hm := hok.made9
  refine ⟨?_, by show s.made = _; rw [e.1]; exact h.made, by rw [e.2, h0]; rfl, (fun hh => by rw [e.2] at hh; cases hh), by show (s.run.set _ _).length = 16; rw [List.length_set]; exact h.len⟩
  exact Seq.one ⟨h0, .inl ⟨by show (0 : Int) ≤ x.id; omega, by show (x.id : Int) < 16; omega⟩, .inr (.inr (.inl rfl)), (fun e => by cases e), fun _ => ⟨by show (0 : Int) ≤ x.id; omega, hx⟩⟩
theorem hasR_mem {r : Rq} {id : Int} (h : hasR r id = true) : ∃ x ∈ r.runs, (x.id : Int) = id := by
  unfold hasR at h
  rw [Bool.and_eq_true, List.any_eq_true] at h
  obtain ⟨x, hx, e⟩ := h.2
  exact ⟨x, hx, by simpa using e⟩
theorem Good.of_fails {r : Rq} (hok : Okw r) {s : Bs} (h : Good r s) (ho : r.over = false) (now : Nat) (id why : Int) (hid : id < 16) (allow : Bool) : ∃ t, Seq s (failsR r now id why allow).2 t ∧ Good (failsR r now id why allow).1 t := by
  unfold failsR
  split
  · exact ⟨s, .nil s, h.of_end id⟩
  · split
    · have := (h.of_end id).tried (hok.sub (keep_sub _ _)) (r2 := againR (endR r id) now) ho (n := 1) (.inl rfl) (now := now) ⟨rfl, rfl, rfl⟩
      exact ⟨_, this.1, this.2⟩
    · have := (h.of_end id).answer (r2 := { endR r id with over := true }) ho (id := id) (n := statusOf why) hid ⟨rfl, rfl⟩
      exact ⟨_, this.1, this.2⟩
/-- Many are let go. -/
theorem Good.cancels_ {r : Rq} (hok : Okw r) (ho : r.over = false) : ∀ (c : List Run) {s : Bs}, c.Sublist r.runs → Good r s → ∃ t, Seq s (cancels c) t ∧ t.made = s.made ∧ t.ans = s.ans ∧ t.run.length = 16 ∧ ∀ y : Nat, (∀ x ∈ c, x.id ≠ y) → t.run.getD y false = s.run.getD y false
  | [], s, _, h => ⟨s, .nil s, rfl, rfl, h.len, fun _ _ => rfl⟩
  | x :: c, s, hc, h => by
    have hxm : x ∈ r.runs := hc.subset (List.mem_cons_self ..)
    have hlt := hok.lt x hxm
    have hm := hok.made9
    obtain ⟨h1, h2⟩ := h.cancel hok ho hxm
    have hp := List.pairwise_cons.1 (hok.ids.sublist hc)
    -- the others of c run still
    have hcs : c.Sublist (endR r x.id).runs := by
      have h3 : (c.filter fun y => (y.id : Int) != (x.id : Int)) = c := List.filter_eq_self.2 (fun y hy => by have := hp.1 y hy; simp; omega)
      have h4 := ((List.sublist_cons_self x c).trans hc).filter (fun y : Run => (y.id : Int) != (x.id : Int))
      rw [h3] at h4
      exact h4
    obtain ⟨t, t1, t2, t3, t4, t5⟩ := Good.cancels_ (hok.sub (keep_sub _ _) : Okw (endR r x.id)) ho c hcs h2
    refine ⟨t, h1.append t1, t2, t3, t4, fun y hy => ?_⟩
    rw [t5 y (fun z hz => hy z (List.mem_cons_of_mem _ hz))]
    show (s.run.set x.id false).getD y false = _
    rw [getD_set' _ _ _ _ (by rw [h.len]; omega), if_neg (hy x (List.mem_cons_self ..))]
theorem Good.of_head {r : Rq} (hok : Okq r) {s : Bs} (h : Good r s) (now : Nat) (id status : Int) (allow : Bool) (hh : hasR r id = true) : ∃ t, Seq s (headR r now id status allow).2 t ∧ Good (headR r now id status allow).1 t := by
  have ho := hasR_over hh
  obtain ⟨x, hx, rfl⟩ := hasR_mem hh
  have hlt := hok.lt x hx
  unfold headR
  split
  · obtain ⟨h1, h2⟩ := h.cancel hok.w ho hx
    split
    · exact ⟨_, h1, h2⟩
    · have h3 := h2.tried (hok.of_end x.id) (r2 := againR (endR r x.id) now) ho (n := 1) (.inl rfl) (now := now) ⟨rfl, rfl, rfl⟩
      exact ⟨_, h1.append h3.1, h3.2⟩
  · obtain ⟨t, t1, t2, t3, t4, t5⟩ := Good.cancels_ hok.w ho (keep r.runs x.id) (keep_sub _ _) h
    have ht : Good { r with runs := [] } t := ⟨by rw [t2]; exact h.made, by rw [t3]; exact h.ans, (fun _ y hy => by cases hy), t4⟩
    have hxr : t.run.getD x.id false = true := by
      rw [t5 x.id (fun y hy e => (mem_keep.1 hy).2 (by rw [e]))]
      exact h.run ho x hx
    have h3 := ht.win (r2 := { r with over := true, runs := [] }) (hok.w.sub (List.nil_sublist _)) ho hxr hlt ⟨rfl, rfl⟩
    exact ⟨_, t1.append h3.1, h3.2⟩
theorem Good.of_lates {r : Rq} (hok : Okq r) (ho : r.over = false) {s : Bs} (h : Good r s) (now : Nat) (hn : now ≤ 4611686018427387904) (allow : Bool) : ∀ j, j ≤ r.runs.length → ∃ t, Seq s (lates now allow (r.runs.take j) (r, [])).2 t ∧ Good (lates now allow (r.runs.take j) (r, [])).1 t
  | 0, _ => ⟨s, .nil s, h⟩
  | j + 1, hj => by
    obtain ⟨t, t1, t2⟩ := Good.of_lates hok ho h now hn allow j (by omega)
    obtain ⟨q1, q2, q3, q4⟩ := hok.of_lates now allow (show j < r.runs.length by omega)
    have hin : r.runs[j]'(by omega) ∈ (lates now allow (r.runs.take j) (r, [])).1.runs := by
      rw [lates_mid hok now allow j (by omega) (fun i hi => filt_ne (by omega))]
      show _ ∈ filt _ _ _ _
      unfold filt
      rw [List.drop_eq_getElem_cons (by omega)]
      exact List.mem_append_right _ (List.mem_cons_self ..)
    rw [lates_take _ _ _ _ _ (by omega)]
    unfold late1
    split
    · have hlt := q1.lt _ hin
      have hm := q1.made9
      obtain ⟨h1, h2⟩ := t2.cancel q1.w (q2.trans ho) hin
      -- failsR ends it anyhow: it was ended by the letting go
      have hg : Good (lates now allow (r.runs.take j) (r, [])).1 { t with run := t.run } := t2
      obtain ⟨u, u1, u2⟩ : ∃ u, Seq ⟨t.made, t.ans, t.run.set (r.runs[j]'(by omega)).id false⟩ (failsR (lates now allow (r.runs.take j) (r, [])).1 now (r.runs[j]'(by omega)).id 3 allow).2 u ∧ Good (failsR (lates now allow (r.runs.take j) (r, [])).1 now (r.runs[j]'(by omega)).id 3 allow).1 u := by
        unfold failsR
        split
        · exact ⟨_, .nil _, h2⟩
        · split
          · have := h2.tried (q1.of_end _) (r2 := againR (endR (lates now allow (r.runs.take j) (r, [])).1 (r.runs[j]'(by omega)).id) now) (q2.trans ho) (n := 1) (.inl rfl) (now := now) ⟨rfl, rfl, rfl⟩
            exact ⟨_, this.1, this.2⟩
          · have := h2.answer (r2 := { endR (lates now allow (r.runs.take j) (r, [])).1 (r.runs[j]'(by omega)).id with over := true }) (q2.trans ho) (id := (r.runs[j]'(by omega)).id) (n := statusOf 3) (by omega) ⟨rfl, rfl⟩
            exact ⟨_, this.1, this.2⟩
      exact ⟨u, (t1.append h1).append u1, u2⟩
    · exact ⟨t, t1, t2⟩
theorem Good.of_hedge {r : Rq} (hok : Okq r) {s : Bs} (h : Good r s) (now : Nat) (allow : Bool) : ∃ t, Seq s (hedgeR r now allow).2 t ∧ Good (hedgeR r now allow).1 t := by
  unfold hedgeR
  split
  · rename_i hc
    simp only [Bool.and_eq_true, Bool.not_eq_true'] at hc
    split
    · have := h.tried hok.w (r2 := tryR { r with hedged := r.hedged + 1 } now) hc.1.1 (n := 2) (.inr rfl) (now := now) ⟨rfl, rfl, rfl⟩
      exact ⟨_, this.1, this.2⟩
    · exact ⟨s, .nil s, h.made, h.ans, h.run, h.len⟩
  · exact ⟨s, .nil s, h⟩
theorem Good.of_time {r : Rq} (hok : Okq r) {s : Bs} (h : Good r s) (now : Nat) (hn : now ≤ 4611686018427387904) (allow : Bool) : ∃ t, Seq s (timeR r now allow).2 t ∧ Good (timeR r now allow).1 t := by
  unfold timeR
  cases ho : r.over with
  | true => rw [if_pos rfl]; exact ⟨s, .nil s, h⟩
  | false =>
    rw [if_neg (by decide)]
    split
    · obtain ⟨t, t1, t2, t3, t4, _⟩ := Good.cancels_ hok.w ho r.runs (List.Sublist.refl _) h
      have ht : Good { r with runs := [] } t := ⟨by rw [t2]; exact h.made, by rw [t3]; exact h.ans, (fun _ y hy => by cases hy), t4⟩
      have h3 := ht.answer (r2 := { r with over := true, runs := [] }) ho (id := -1) (n := 504) (by decide) ⟨rfl, rfl⟩
      exact ⟨_, t1.append h3.1, h3.2⟩
    · obtain ⟨t, t1, t2⟩ := Good.of_lates hok ho h now hn allow r.runs.length (Nat.le_refl _)
      rw [List.take_of_length_le (Nat.le_refl _)] at t1 t2
      obtain ⟨u, u1, u2⟩ := t2.of_hedge (hok.of_lates_all ho now hn allow).1 now allow
      exact ⟨u, t1.append u1, u2⟩
theorem Good.of_step {r : Rq} (hok : Okq r) {s : Bs} (h : Good r s) (k now id why : Int) (allow : Bool) : ∃ t, Seq s (stepI r k now id why allow).2.1 t ∧ Good (stepI r k now id why allow).1 t := by
  have toN : ∀ now : Int, isMoment now → now.toNat ≤ 4611686018427387904 := fun now hm => by unfold isMoment at hm; omega
  unfold stepI
  split
  · unfold failI
    split
    · exact ⟨s, .nil s, h⟩
    · split
      · exact ⟨s, .nil s, h⟩
      · rename_i h2
        have hh : hasR r id = true := by simpa using h2
        obtain ⟨x, hx, rfl⟩ := hasR_mem hh
        have := hok.lt x hx
        have := hok.made9
        exact h.of_fails hok.w (hasR_over hh) _ _ _ (by omega) _
  · split
    · unfold headI
      split
      · exact ⟨s, .nil s, h⟩
      · split
        · exact ⟨s, .nil s, h⟩
        · rename_i h2
          split
          · exact ⟨s, .nil s, h⟩
          · exact h.of_head hok _ _ _ _ (by simpa using h2)
    · unfold timeI
      split
      · exact ⟨s, .nil s, h⟩
      · rename_i h1
        exact h.of_time hok _ (toN _ (Classical.not_not.1 h1)) _
theorem good_begun (pl : Pl) : Good (begunRq pl 0) ⟨1, 0, true :: List.replicate 15 false⟩ :=
  ⟨rfl, rfl, fun _ x hx => by rw [List.mem_singleton.1 hx]; rfl, rfl⟩
end Go.Proofs.Ytlcblfkmadjppaa
