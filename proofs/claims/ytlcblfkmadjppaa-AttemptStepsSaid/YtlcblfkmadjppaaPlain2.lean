/- Time, as plain data. -/
import Derived.Test.YtlcblfkmadjppaaPlain
namespace Go.Proofs.Ytlcblfkmadjppaa
set_option linter.unusedVariables false

theorem fails_len (r : Rq) (now : Nat) (id why : Int) (allow : Bool) : (failsR r now id why allow).2.length ≤ 1 := by
  unfold failsR; split
  · simp
  · split <;> simp
theorem fails_pl (r : Rq) (now : Nat) (id why : Int) (allow : Bool) : (failsR r now id why allow).1.pl = r.pl := by
  unfold failsR; split
  · rfl
  · split <;> rfl
/-- Behind all of them. -/
theorem Okq.of_lates_all {r : Rq} (h : Okq r) (ho : r.over = false) (now : Nat) (hn : now ≤ 4611686018427387904) (allow : Bool) :
    Okq (lates now allow r.runs (r, [])).1 ∧ (lates now allow r.runs (r, [])).2.length ≤ 12 ∧ (lates now allow r.runs (r, [])).1.pl = r.pl := by
  have h0 := List.length_pos_iff.2 (h.live ho)
  obtain ⟨n, hnn⟩ : ∃ n, r.runs.length = n + 1 := ⟨r.runs.length - 1, by omega⟩
  obtain ⟨h1, h2, h3, h4⟩ := h.of_lates now allow (show n < r.runs.length by omega)
  have e : lates now allow r.runs (r, []) = late1 now allow (lates now allow (r.runs.take n) (r, [])) (r.runs[n]'(by omega)) := by
    rw [← lates_take _ _ _ _ _ (by omega), List.take_of_length_le (by omega)]
  rw [e]
  unfold late1
  split
  · refine ⟨h1.of_fails now hn _ 3 allow (by rw [h2, ho]), ?_, ?_⟩
    · have := fails_len (lates now allow (r.runs.take n) (r, [])).1 now (r.runs[n]'(by omega)).id 3 allow
      simp only [List.length_append, List.length_singleton]
      omega
    · rw [fails_pl]; exact h4
  · exact ⟨h1, by omega, h4⟩
theorem Okq.of_hedge {r : Rq} (h : Okq r) (now : Nat) (hn : now ≤ 4611686018427387904) (allow : Bool) : Okq (hedgeR r now allow).1 := by
  unfold hedgeR
  split
  · rename_i hc
    simp only [Bool.and_eq_true, Bool.not_eq_true', hedging, decide_eq_true_eq] at hc
    split
    · exact h.w.of_try now hn hc.1.1 ⟨rfl, rfl, rfl, rfl, rfl, rfl⟩ (.inr ⟨rfl, rfl, hc.1.2.1.2⟩)
    · exact ⟨h.p1, h.p2, h.p3, h.p4, h.p5, h.a1, h.a2, h.made, h.ids, h.lt, h.t1, h.t2, h.t3, h.over_, h.live⟩
  · exact h
theorem Okq.of_time {r : Rq} (h : Okq r) (now : Nat) (hn : now ≤ 4611686018427387904) (allow : Bool) : Okq (timeR r now allow).1 := by
  unfold timeR
  cases ho : r.over with
  | true => exact h
  | false =>
    rw [if_neg (by decide)]
    split
    · exact h.of_over
    · exact (h.of_lates_all ho now hn allow).1.of_hedge now hn allow
end Go.Proofs.Ytlcblfkmadjppaa
