/- end, find, again, hedging. -/
import Derived.Test.YtlcblfkmadjppaaWalks4
namespace Go.Proofs.Ytlcblfkmadjppaa
open Go.RowKit
set_option linter.unusedVariables false
set_option linter.unusedSimpArgs false

section
variable {F : Nat → Prop} {w : World} {lo p : Nat} {r : Rq} {vr vo : Value} {o : List Ac}

/-- r.runs = a row that was made of it. -/
theorem Rw.turnRuns (h : Rw w lo p r vr o vo) {wa w2 : World} {v2 : Value} {n : Nat} {r' : Rq} (ha : Only (fun _ => False) w wa) (hown : w2.ownsRow lo 64 2 v2 r'.runs.length (runCells r'.runs))
    (hon : Only (fun i => vr.ownBlock = some i) wa w2) (hat : v2.ownBlock = vr.ownBlock ∨ v2.ownBlock = some n) (hn : w.heap.size ≤ n) (e : rqCells r' v2 vo = (rqCells r vr vo).set 11 v2) :
    Rw (w2.setCell ⟨p, 11, none⟩ v2) lo p r' v2 o vo ∧ Mv (foot p vr vo) (foot p v2 vo) w (w2.setCell ⟨p, 11, none⟩ v2) := by
  have h2 := (h.blk.only ha id).only hon (fun e => h.nr e)
  have hp := h.blk.lt
  have ho2 : w2.ownsRow lo 37 3 vo o.length (acCells o) := owns_only (owns_only h.out ha (fun _ _ => id)) hon (fun k hk e => own_own_ne h.out h.runs (by decide) k hk e)
  have hn2 : v2.ownBlock ≠ some p := by
    rcases hat with e | e
    · rw [e]; exact h.nr
    · rw [e]; simp only [ne_eq, Option.some.injEq]; omega
  refine ⟨⟨by rw [e]; exact h2.set 11 v2, owns_only hown (only_p w2 p 11 v2) (fun k hk e => hn2 (by rw [hk, e])), owns_only ho2 (only_p w2 p 11 v2) (fun k hk e => h.no (by rw [hk, e])), h.low⟩, ?_, fun k hk => ?_⟩
  · exact ((ha.mono (fun _ _ h => h.elim)).trans hon (fun k _ e => .inr (.inl e))).trans (only_p w2 p 11 v2) (fun k _ e => .inl e)
  · rcases hk with hk | hk | hk
    · exact .inl (.inl hk)
    · rcases hat with e | e
      · exact .inl (.inr (.inl (by rw [← e]; exact hk)))
      · rw [e] at hk; injection hk with hk; exact .inr (by omega)
    · exact .inl (.inr (.inr hk))

theorem end_any (h : RQ F w lo p r o) (hl : r.runs.length ≤ 64) (id : Int) :
    Calls Try.prog 49 #[.pointer (some ⟨p, 0, none⟩), .int .i64 id] w fun e w' => e = .returned (.tuple #[]) ∧ RP F w w' lo p (endR r id) o := by
  obtain ⟨vr, vo, h, rfl⟩ := h
  have HL := Lib.hid hl
  have H := Lib.hid h
  clear h hl
  go_enter Try.func49, Try.ntmps49
  go_upto_region 1 with fail
  have hbx : Blk (w.alloc (Obj.cells #[.int .i64 id] 3)) w.heap.size [.int .i64 id] 3 := Blk.new w [.int .i64 id] 3
  have hox : Only (fun _ => False) w (w.alloc (Obj.cells #[.int .i64 id] 3)) := (Only.refl _ _).alloc _
  obtain ⟨q, hq⟩ : ∃ q, q = w.heap.size := ⟨_, rfl⟩
  rw [← hq] at hbx ⊢
  generalize w.alloc (Obj.cells #[.int .i64 id] 3) = w1 at hbx hox ⊢
  have h1 := H.out.only hox (fun _ _ h => h)
  have c1 := h1.blk.cell 11 _ rfl
  have H1 := Lib.hid h1
  have HBX := Lib.hid hbx
  have HOX := Lib.hid hox
  clear h1 hbx hox hq
  go_wp2_with (go_at_call 54; (with_reducible refine (deleteFunc_any H1.out.runs id q HBX.out HL.out).mono ?_); rintro e w2 ⟨v2, rfl, hown, hat, hon⟩; obtain ⟨a2, k2, rfl, _, _, _, _⟩ := ownsRow_slice hown; have hb2 := H1.out.blk.only hon (fun e => H1.out.nr e); have d1 := hb2.cell 11 _ rfl; have f1 := hb2.free 11; have HW := Lib.hid hown; have HA := Lib.hid hat; have HN := Lib.hid hon; clear hown hat hon hb2)
  go_end0
  obtain ⟨g1, g2⟩ := H.out.turnRuns (r' := endR r id) HOX.out HW.out HN.out (.inl HA.out) (Nat.le_refl _) rfl
  exact ⟨rfl, _, ⟨_, _, g1, rfl⟩, g2⟩

theorem find_nil (id : Int) (w : World) : Calls Try.prog 47 #[.pointer none, .int .i64 id] w fun e w' => e = .returned (.int .i64 (-1)) ∧ Only (fun _ => False) w w' := by
  go_enter Try.func47, Try.ntmps47
  go_wp2_with (go_at_call 12; (with_reducible refine (over_nil _).mono ?_); rintro e w' ⟨rfl, rfl⟩)
  go_ret
  exact ⟨rfl, (Only.refl _ _).alloc _⟩

theorem any_of {l : List Run} {id : Int} {i : Nat} (hi : i < l.length) (h : ((runAt l i).id : Int) = id) : (l.any fun x => (x.id : Int) == id) = true := by
  rw [List.any_eq_true]
  exact ⟨l[i], List.getElem_mem hi, by rw [← runAt_eq hi]; simpa using h⟩
theorem any_none {l : List Run} {id : Int} (h : ∀ i, i < l.length → ((runAt l i).id : Int) ≠ id) : (l.any fun x => (x.id : Int) == id) = false := by
  rw [List.any_eq_false]
  intro x hx
  obtain ⟨i, hi, rfl⟩ := List.getElem_of_mem hx
  have := h i hi
  rw [runAt_eq hi] at this
  simpa using this
/-- What find tells. -/
def FindP (r : Rq) (id k : Int) : Prop := (hasR r id = true ∧ 0 ≤ k) ∨ (hasR r id = false ∧ k = -1)
theorem find_any (h : RQ F w lo p r o) (id : Int) :
    Calls Try.prog 47 #[.pointer (some ⟨p, 0, none⟩), .int .i64 id] w fun e w' => ∃ k, e = .returned (.int .i64 k) ∧ FindP r id k ∧ Only (fun _ => False) w w' := by
  obtain ⟨vr, vo, h, rfl⟩ := h
  have H := Lib.hid h
  clear h
  cases hov : r.over with
  | true =>
    have HV := Lib.hid hov
    clear hov
    go_enter Try.func47, Try.ntmps47
    go_upto_region 1 with fail
    have hox : Only (fun _ => False) w (w.alloc (Obj.cells #[.int .i64 id] 3)) := (Only.refl _ _).alloc _
    generalize w.alloc (Obj.cells #[.int .i64 id] 3) = w1 at hox ⊢
    have H1 := Lib.hid (rq_of (H.out.only hox (fun _ _ h => h)))
    have HOX := Lib.hid hox
    clear hox
    go_wp2_with (go_at_call 12; (with_reducible refine (over_any H1.out).mono ?_); rintro e w' ⟨rfl, rfl⟩; rw [HV.out])
    go_ret
    exact ⟨_, rfl, .inr ⟨by unfold hasR; rw [HV.out]; rfl, rfl⟩, HOX.out⟩
  | false =>
    have HV := Lib.hid hov
    clear hov
    obtain ⟨ao, cr, rfl, hrl, hrm, _, hsome⟩ := ownsRow_slice H.out.runs
    have hcm : cr ≤ 9223372036854775807 := by unfold maxLen at hrm; omega
    obtain ⟨n, hn⟩ : ∃ n, n = r.runs.length := ⟨_, rfl⟩
    rw [← hn] at hrl hsome
    have hH := H.out
    rw [← hn] at hH
    have HN := Lib.hid hn
    have H2 := Lib.hid hH
    have hat : ∃ g, (0 < n → ao = some ⟨g, 0, none⟩) ∧ RunsAt w g r.runs := by
      by_cases h0 : 0 < n
      · obtain ⟨g, cap, C, e, _, _, _, _, hr, _⟩ := own_runs H.out.runs (by rw [← HN.out]; exact h0)
        injection e with e1 e2 e3
        exact ⟨g, fun _ => e1, hr⟩
      · exact ⟨0, fun h => absurd h h0, ⟨fun h => absurd h (by rw [← HN.out]; exact h0), fun i hi => absurd hi (by rw [← HN.out]; omega)⟩⟩
    obtain ⟨g, hg1, hg2⟩ := hat
    have HG1 := Lib.hid hg1
    have HG2 := Lib.hid hg2
    clear hH hn hsome hg1 hg2 hrm
    go_enter Try.func47, Try.ntmps47
    go_upto_region 1 with fail
    have hbx : Blk (w.alloc (Obj.cells #[.int .i64 id] 3)) w.heap.size [.int .i64 id] 3 := Blk.new w [.int .i64 id] 3
    have hox : Only (fun _ => False) w (w.alloc (Obj.cells #[.int .i64 id] 3)) := (Only.refl _ _).alloc _
    obtain ⟨q, hq⟩ : ∃ q, q = w.heap.size := ⟨_, rfl⟩
    rw [← hq] at hbx ⊢
    generalize w.alloc (Obj.cells #[.int .i64 id] 3) = w1 at hbx hox ⊢
    have h1 := H2.out.only hox (fun _ _ h => h)
    have c1 := h1.blk.cell 11 _ rfl
    have H1 := Lib.hid (rq_of h1)
    have HBX := Lib.hid hbx
    have HOX := Lib.hid hox
    have HR1 := Lib.hid (HG2.out.only hox (fun h => h))
    clear h1 hbx hox hq
    go_wp2_with (first
      | (go_at_call 12; (with_reducible refine (over_any H1.out).mono ?_); rintro e w' ⟨rfl, rfl⟩; rw [HV.out])
      | (go_at_call 52; (with_reducible refine (indexFunc53 HN.out.symm HG1.out hrl hcm HR1.out id q (HBX.out.cell 0 _ rfl) HBX.out.lt).mono ?_); rintro e w2 ⟨k, rfl, hk, hO⟩; have HK := Lib.hid hk; have HO := Lib.hid hO; clear hk hO))
    go_ret
    refine ⟨_, rfl, ?_, HOX.out.trans HO.out (fun _ _ h => h)⟩
    rcases HK.out with ⟨rfl, hnone⟩ | ⟨i, rfl, hi, he, _⟩
    · exact .inr ⟨by unfold hasR; rw [HV.out, any_none hnone]; rfl, rfl⟩
    · exact .inl ⟨by unfold hasR; rw [HV.out, any_of hi he]; rfl, by omega⟩

theorem again_any (h : RQ F w lo p r o) (hok : Okw r) (why : Int) (allow : Bool) :
    Calls Try.prog 48 #[.pointer (some ⟨p, 0, none⟩), .int .i64 why, .bool allow] w fun e w' => e = .returned (.bool (mayR r why allow)) ∧ Drawn w w' := by
  obtain ⟨vr, vo, h, -⟩ := h
  have c9 := h.blk.cell 9 _ rfl
  have c0 := h.blk.cell 0 _ rfl
  have c5 := h.blk.cell 5 _ rfl
  have hb1 := hok.p1
  have hb2 := hok.a1
  clear h hok
  unfold mayR
  generalize r.again = a at c9 hb2 ⊢
  generalize r.pl.retries = m at c0 hb1 hb2 ⊢
  generalize r.pl.safe = s at c5 ⊢
  by_cases h1 : a < m
  · have f1 : decide (a < m) = true := decide_eq_true h1
    have f1i : decide ((a : Int) < (m : Int)) = true := decide_eq_true (by omega)
    rw [f1]
    cases allow with
    | false =>
      go_enter Try.func48, Try.ntmps48
      go_wp2
      go_quiet (fail)
      go_wp2
      go_ret
      exact ⟨rfl, Drawn.of _ _⟩
    | true =>
      cases s with
      | true =>
        go_enter Try.func48, Try.ntmps48
        go_wp2
        go_quiet (fail)
        go_wp2
        go_ret
        exact ⟨ret_bool (by simp), Drawn.of _ _⟩
      | false =>
        by_cases h2 : why = 1
        · subst h2
          go_enter Try.func48, Try.ntmps48
          go_wp2
          go_quiet (fail)
          go_wp2
          go_ret
          exact ⟨ret_bool (by simp), Drawn.of _ _⟩
        · have f2 : (why == 1) = false := beq_eq_false_iff_ne.2 h2
          by_cases h3 : why = 4
          · subst h3
            go_enter Try.func48, Try.ntmps48
            go_wp2
            go_quiet (fail)
            go_wp2
            go_ret
            exact ⟨ret_bool (by simp), Drawn.of _ _⟩
          · have f3 : (why == 4) = false := beq_eq_false_iff_ne.2 h3
            rw [f2, f3]
            go_enter Try.func48, Try.ntmps48
            go_wp2
            go_quiet (fail)
            go_wp2
            go_ret
            exact ⟨ret_bool (by simp), Drawn.of _ _⟩
  · have f1 : decide (a < m) = false := decide_eq_false h1
    have f1i : decide ((a : Int) < (m : Int)) = false := decide_eq_false (by omega)
    rw [f1]
    go_enter Try.func48, Try.ntmps48
    go_wp2
    go_quiet (fail)
    go_wp2
    go_ret
    exact ⟨ret_bool (by simp), Drawn.of _ _⟩

theorem hedging_any (h : RQ F w lo p r o) (hok : Okw r) :
    Calls Try.prog 41 #[.pointer (some ⟨p, 0, none⟩)] w fun e w' => e = .returned (.bool (hedging r)) ∧ Drawn w w' := by
  obtain ⟨vr, vo, h, -⟩ := h
  obtain ⟨ao, cr, rfl, hrl, hrm, _, _⟩ := ownsRow_slice h.runs
  have c13 := h.blk.cell 13 _ rfl
  have c10 := h.blk.cell 10 _ rfl
  have c1 := h.blk.cell 1 _ rfl
  have c11 := h.blk.cell 11 _ rfl
  have hb1 := hok.p2
  have hb2 := hok.a2
  have hb3 := hok.len9
  clear h hok
  unfold hedging
  generalize r.hedged = a at c10 hb2 ⊢
  generalize r.pl.hedges = m at c1 hb1 hb2 ⊢
  generalize r.tame = s at c13 ⊢
  generalize r.runs.length = n at c11 hrl hb3 ⊢
  cases s with
  | true =>
    go_enter Try.func41, Try.ntmps41
    go_wp2
    go_quiet (fail)
    go_wp2
    go_ret
    exact ⟨ret_bool (by simp), Drawn.of _ _⟩
  | false =>
    by_cases h1 : a < m
    · have f1 : decide (a < m) = true := decide_eq_true h1
      have f1i : decide ((a : Int) < (m : Int)) = true := decide_eq_true (by omega)
      rw [f1]
      go_enter Try.func41, Try.ntmps41
      go_wp2
      go_quiet (fail)
      go_wp2
      go_ret
      exact ⟨ret_bool (by simp), Drawn.of _ _⟩
    · have f1 : decide (a < m) = false := decide_eq_false h1
      have f1i : decide ((a : Int) < (m : Int)) = false := decide_eq_false (by omega)
      rw [f1]
      go_enter Try.func41, Try.ntmps41
      go_wp2
      go_quiet (fail)
      go_wp2
      go_ret
      exact ⟨ret_bool (by simp), Drawn.of _ _⟩
end
end Go.Proofs.Ytlcblfkmadjppaa
