/- What the laws say of the steps, as plain data. -/
import Derived.Test.YtlcblfkmadjppaaKeep
namespace Go.Proofs.Ytlcblfkmadjppaa
set_option linter.unusedVariables false

theorem fails_since (r : Rq) (now : Nat) (id why : Int) (allow : Bool) : (failsR r now id why allow).1.since = r.since := by
  unfold failsR; split
  · rfl
  · split <;> rfl
theorem late1_pl (now : Nat) (allow : Bool) (s : Rq × List Ac) (x : Run) : (late1 now allow s x).1.pl = s.1.pl ∧ (late1 now allow s x).1.since = s.1.since := by
  unfold late1
  split
  · exact ⟨fails_pl _ _ _ _ _, fails_since _ _ _ _ _⟩
  · exact ⟨rfl, rfl⟩
theorem lates_pl (now : Nat) (allow : Bool) (l : List Run) : ∀ s : Rq × List Ac, (lates now allow l s).1.pl = s.1.pl ∧ (lates now allow l s).1.since = s.1.since := by
  induction l with
  | nil => exact fun s => ⟨rfl, rfl⟩
  | cons x l ih =>
    intro s
    have h1 := ih (late1 now allow s x)
    have h2 := late1_pl now allow s x
    exact ⟨h1.1.trans h2.1, h1.2.trans h2.2⟩
theorem hedge_pl (r : Rq) (now : Nat) (allow : Bool) : (hedgeR r now allow).1.pl = r.pl ∧ (hedgeR r now allow).1.since = r.since := by
  unfold hedgeR; split
  · split <;> exact ⟨rfl, rfl⟩
  · exact ⟨rfl, rfl⟩
theorem time_pl (r : Rq) (now : Nat) (allow : Bool) : (timeR r now allow).1.pl = r.pl ∧ (timeR r now allow).1.since = r.since := by
  unfold timeR; split
  · exact ⟨rfl, rfl⟩
  · split
    · exact ⟨rfl, rfl⟩
    · have h1 := hedge_pl (lates now allow r.runs (r, [])).1 now allow
      have h2 := lates_pl now allow r.runs (r, [])
      exact ⟨h1.1.trans h2.1, h1.2.trans h2.2⟩
theorem head_pl (r : Rq) (now : Nat) (id status : Int) (allow : Bool) : (headR r now id status allow).1.pl = r.pl ∧ (headR r now id status allow).1.since = r.since := by
  unfold headR; split
  · split <;> exact ⟨rfl, rfl⟩
  · exact ⟨rfl, rfl⟩
theorem step_pl (r : Rq) (k now id why : Int) (allow : Bool) : (stepI r k now id why allow).1.pl = r.pl ∧ (stepI r k now id why allow).1.since = r.since := by
  unfold stepI; split
  · unfold failI; split
    · exact ⟨rfl, rfl⟩
    · split
      · exact ⟨rfl, rfl⟩
      · exact ⟨fails_pl _ _ _ _ _, fails_since _ _ _ _ _⟩
  · split
    · unfold headI; split
      · exact ⟨rfl, rfl⟩
      · split
        · exact ⟨rfl, rfl⟩
        · split
          · exact ⟨rfl, rfl⟩
          · exact head_pl _ _ _ _ _
    · unfold timeI; split
      · exact ⟨rfl, rfl⟩
      · exact time_pl _ _ _

/-- Of which kind an attempt is that is made. -/
def Tries (pl : Pl) (again : Prop) (a : Ac) : Prop := (a.n = 1 ∧ 0 < pl.retries ∧ (pl.safe = true ∨ again)) ∨ (a.n = 2 ∧ 0 < pl.hedges)
theorem mayR_of {r : Rq} {why : Int} {allow : Bool} (h : mayR r why allow = true) : 0 < r.pl.retries ∧ (r.pl.safe = true ∨ why = 1 ∨ why = 4) := by
  have h1 := mayR_iff h
  unfold mayR at h
  simp only [Bool.and_eq_true, Bool.or_eq_true, beq_iff_eq] at h
  refine ⟨by omega, ?_⟩
  rcases h.2 with (h | h) | h
  · exact .inl h
  · exact .inr (.inl h)
  · exact .inr (.inr h)
theorem fails_tries {r : Rq} {now : Nat} {id why : Int} {allow : Bool} {a : Ac} (ha : a ∈ (failsR r now id why allow).2) (hk : a.kind = 1) : Tries r.pl (why = 1 ∨ why = 4) a := by
  unfold failsR at ha
  split at ha
  · cases ha
  · split at ha
    · rename_i h
      obtain ⟨h1, h2⟩ := mayR_of h
      rw [List.mem_singleton.1 ha]
      exact .inl ⟨rfl, h1, h2⟩
    · rw [List.mem_singleton.1 ha] at hk
      simp at hk
theorem cancels_kind {l : List Run} {a : Ac} (ha : a ∈ cancels l) : a.kind = 2 := by
  obtain ⟨x, _, rfl⟩ := List.mem_map.1 ha
  rfl
theorem lates_tries {now : Nat} {allow : Bool} : ∀ (l : List Run) (s : Rq × List Ac) {a : Ac}, a ∈ (lates now allow l s).2 → a.kind = 1 → a ∈ s.2 ∨ Tries s.1.pl False a
  | [], s, a, ha, hk => .inl ha
  | x :: l, s, a, ha, hk => by
    rcases lates_tries l (late1 now allow s x) ha hk with h | h
    · unfold late1 at h
      split at h
      · simp only [List.mem_append, List.mem_singleton] at h
        rcases h with (h | h) | h
        · exact .inl h
        · rw [h] at hk; simp at hk
        · right
          rcases fails_tries h hk with ⟨h1, h2, h3 | h3⟩ | h
          · exact .inl ⟨h1, h2, .inl h3⟩
          · omega
          · exact .inr h
      · exact .inl h
    · right
      rwa [(late1_pl now allow s x).1] at h
theorem hedge_tries {r : Rq} {now : Nat} {allow : Bool} {a : Ac} (ha : a ∈ (hedgeR r now allow).2) : Tries r.pl False a := by
  unfold hedgeR at ha
  split at ha
  · rename_i h
    split at ha
    · rw [List.mem_singleton.1 ha]
      simp only [Bool.and_eq_true, hedging, decide_eq_true_eq] at h
      exact .inr ⟨rfl, by omega⟩
    · cases ha
  · cases ha
theorem step_tries {r : Rq} (hok : Okq r) {k now id why : Int} {allow : Bool} {a : Ac} (ha : a ∈ (stepI r k now id why allow).2.1) (hk : a.kind = 1) : Tries r.pl (k = 0 ∧ (why = 1 ∨ why = 4)) a := by
  unfold stepI at ha
  split at ha
  · rename_i hk0
    unfold failI at ha
    split at ha
    · cases ha
    · split at ha
      · cases ha
      · rcases fails_tries ha hk with ⟨h1, h2, h3⟩ | h
        · exact .inl ⟨h1, h2, h3.imp (fun h => h) (fun h => ⟨hk0, h⟩)⟩
        · exact .inr h
  · split at ha
    · unfold headI at ha
      split at ha
      · cases ha
      · split at ha
        · cases ha
        · split at ha
          · cases ha
          · unfold headR at ha
            split at ha
            · rename_i hb
              split at ha
              · rw [List.mem_singleton.1 ha] at hk; simp at hk
              · rename_i hkeep
                simp only [List.mem_cons, List.not_mem_nil, or_false] at ha
                rcases ha with rfl | rfl
                · simp at hk
                · simp only [Bool.and_eq_true, Bool.or_eq_true, decide_eq_true_eq] at hb
                  rcases hb.2 with hm | hl
                  · obtain ⟨h1, h2⟩ := mayR_of hm
                    refine .inl ⟨rfl, h1, ?_⟩
                    rcases h2 with h2 | h2
                    · exact .inl h2
                    · omega
                  · exact absurd (Classical.not_not.1 hkeep) (keep_two hok.ids hl)
            · rcases List.mem_append.1 ha with ha | ha
              · rw [cancels_kind ha] at hk; simp at hk
              · rw [List.mem_singleton.1 ha] at hk; simp at hk
    · unfold timeI at ha
      split at ha
      · cases ha
      · unfold timeR at ha
        split at ha
        · cases ha
        · split at ha
          · rcases List.mem_append.1 ha with ha | ha
            · rw [cancels_kind ha] at hk; simp at hk
            · rw [List.mem_singleton.1 ha] at hk; simp at hk
          · have hw : ∀ {P : Prop}, Tries r.pl False a → Tries r.pl P a := fun h => h.imp (fun ⟨h1, h2, h3⟩ => ⟨h1, h2, .inl (h3.elim (fun h => h) (fun h => h.elim))⟩) (fun h => h)
            rcases List.mem_append.1 ha with ha | ha
            · rcases lates_tries _ _ ha hk with h | h
              · cases h
              · exact hw h
            · have := hedge_tries ha
              rw [(lates_pl _ _ _ _).1] at this
              exact hw this
end Go.Proofs.Ytlcblfkmadjppaa
