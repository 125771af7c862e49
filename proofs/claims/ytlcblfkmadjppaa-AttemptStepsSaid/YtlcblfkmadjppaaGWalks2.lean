/- The reference: done, may, runs, hedging. -/
import Derived.Test.YtlcblfkmadjppaaGWalks1
namespace Go.Proofs.Ytlcblfkmadjppaa
open Go.RowKit
set_option linter.unusedVariables false
set_option linter.unusedSimpArgs false

theorem zero66 : ∀ w : World, (zeroValue 66).run Try.prog w = .ok (.agg #[.int .i64 0, .int .i64 0, .int .i64 0]) w := fun w => by kernel_rfl
section
variable {w : World} {lo p : Nat} {r : Rq} {I B : List Int} {vi vb vo : Value} {o : List Ac}

def DoneP (w w' : World) (lo p : Nat) (r : Rq) (o : List Ac) (vo : Value) : Prop :=
  ∃ vo', Gw w' lo p r [] (.slice none 0 0) [] (.slice none 0 0) o vo' ∧ Mv (pfoot p vo) (pfoot p vo') w w'
set_option maxRecDepth 100000 in
set_option maxHeartbeats 3200000 in
theorem gdone_any (h : Gw w lo p r I vi B vb o vo) (ho : o.length ≤ 60) (k d n : Int) :
    Calls Try.prog 37 #[.pointer (some ⟨p, 0, none⟩), .agg #[.int .i64 k, .int .i64 d, .int .i64 n]] w fun e w' => e = .returned (.tuple #[]) ∧ DoneP w w' lo p { r with over := true } (o ++ [⟨k, d, n⟩]) vo := by
  obtain ⟨i66, hi66, hz0, hz1, hz2⟩ := info_parts Try.info66
  obtain ⟨ao, co, rfl, hco1, hco2, _, _⟩ := ownsRow_slice h.out
  obtain ⟨ko, hko⟩ : ∃ k, k = o.length := ⟨_, rfl⟩
  rw [← hko] at ho hco1 h
  rw [← hko]
  have H := Lib.hid h
  have HKO := Lib.hid hko
  clear h hko
  go_enter Try.func37, Try.ntmps37
  go_upto_region 1 with fail
  have hbx : Blk (w.alloc (Obj.cells #[.int .i64 k, .int .i64 d, .int .i64 n] 66)) w.heap.size [.int .i64 k, .int .i64 d, .int .i64 n] 66 := Blk.new w [.int .i64 k, .int .i64 d, .int .i64 n] 66
  have hox : Only (fun _ => False) w (w.alloc (Obj.cells #[.int .i64 k, .int .i64 d, .int .i64 n] 66)) := (Only.refl _ _).alloc _
  obtain ⟨q, hq⟩ : ∃ q, q = w.heap.size := ⟨_, rfl⟩
  rw [← hq] at hbx ⊢
  have hqp : q ≠ p := by have := H.out.blk.lt; omega
  have hqo : (Value.slice ao ko co).ownBlock ≠ some q := fun e => by have := (ownsRow_lt H.out.out q e).2; omega
  generalize w.alloc (Obj.cells #[.int .i64 k, .int .i64 d, .int .i64 n] 66) = w1 at hbx hox ⊢
  have H1 := Lib.hid (H.out.only hox (fun _ _ h => h))
  have HOX := Lib.hid hox
  have c13 := H1.out.blk.cell 13 _ rfl
  have f13 := H1.out.blk.free 13
  have hpl := H1.out.blk.lt
  have h2 := H1.out.setF (i := 13) (u := .bool true) (r' := { r with over := true }) (by rfl)
  have hb2 := hbx.only (only_p w1 p 13 (.bool true)) hqp
  have HQP := Lib.hid hqp
  have HQO := Lib.hid hqo
  clear hbx hox hqp hqo hq
  go_upto_region 2 with fail
  generalize w1.setCell ⟨p, 13, none⟩ (.bool true) = w2 at h2 hb2 ⊢
  have c11 := h2.1.blk.cell 11 _ rfl
  have f11 := h2.1.blk.free 11
  have hpl2 := h2.1.blk.lt
  have h3 := h2.1.setIds (v := .slice none 0 0) (I' := []) (World.ownsRow_nil _ _ _ _) (by intro e; cases e) (fun k hk => by cases hk)
  have m3 := only_p w2 p 11 (.slice none 0 0)
  have hb3 := hb2.only m3 HQP.out
  have M2 := Lib.hid h2.2
  clear h2 hb2 c13 f13
  go_upto_region 3 with fail
  generalize w2.setCell ⟨p, 11, none⟩ (.slice none 0 0) = w3 at h3 hb3 m3 ⊢
  have c12 := h3.blk.cell 12 _ rfl
  have f12 := h3.blk.free 12
  have hpl3 := h3.blk.lt
  have h4 := h3.setBeg (v := .slice none 0 0) (B' := []) (World.ownsRow_nil _ _ _ _) (by intro e; cases e) (fun k hk => by cases hk)
  have m4 := only_p w3 p 12 (.slice none 0 0)
  have hb4 := hb3.only m4 HQP.out
  have M3 := Lib.hid m3
  clear h3 hb3 m3 c11 f11
  go_upto_region 4 with fail
  generalize w3.setCell ⟨p, 12, none⟩ (.slice none 0 0) = w4 at h4 hb4 m4 ⊢
  have c15 := h4.blk.cell 15 _ rfl
  have f15 := h4.blk.free 15
  have hpl4 := h4.blk.lt
  have hlo4 : lo ≤ w4.heap.size := by have := h4.low; omega
  have b0 := hb4.cell 0 _ rfl
  have b1 := hb4.cell 1 _ rfl
  have b2 := hb4.cell 2 _ rfl
  have hql := hb4.lt
  have hO3 := h4.out
  rw [← HKO.out] at hO3
  have HO3 := Lib.hid hO3
  have H4 := Lib.hid h4
  have M4 := Lib.hid m4
  clear hO3 h4 hb4 m4 c12 f12
  go_region_law (refine step_append_row rfl (.tmp 17) (.tmp 19) 42 rfl lo 66 i66 _ 3 24 Try.underlying42 hi66 hz0 hz1 hz2 rfl (by decide) (.slice ao ko co) ko (acCells o) rfl (HO3.out.alloc _) (some ⟨w4.heap.size, 0, none⟩) 1 1 (acCells [⟨k, d, n⟩]) rfl rfl (fun _ => ⟨_, rfl, cells_new _ [.int .i64 k, .int .i64 d, .int .i64 n] _⟩) (fun e => by cases e) (ac_one _) (by unfold maxLen; omega) (by omega) (by first | (simp only [World.size_drew, World.size_alloc]; omega) | (simp only [World.size_alloc]; omega) | (simp; omega)) ?_; intro v9 w9 hown9 hon9 hat9 _; obtain ⟨a9, k9, rfl, _, _, _, _⟩ := ownsRow_slice hown9; have hon9' : Only (fun i => (Value.slice ao ko co).ownBlock = some i) (w4.alloc (.cells #[.int .i64 k, .int .i64 d, .int .i64 n] 66)) w9 := ⟨hon9.os, hon9.tape, hon9.output, hon9.size, hon9.block⟩; have hb9 := (H4.out.blk.alloc (.cells #[.int .i64 k, .int .i64 d, .int .i64 n] 66)).only hon9' (fun e => H4.out.no e); have e15 := hb9.cell 15 _ rfl; have g15 := hb9.free 15; have HO9 := Lib.hid hown9; have HN9 := Lib.hid hon9'; have HA9 := Lib.hid hat9; clear hown9 hon9 hon9' hat9 hb9)
  all_goals
    have hA9 := H4.out.appOut (acts := [⟨k, d, n⟩]) ((Only.refl _ w4).alloc (.cells #[.int .i64 k, .int .i64 d, .int .i64 n] 66)) (by rw [← HKO.out]; exact HO9.out) HN9.out (by have h := HA9.out; first | exact h | (simp only [World.size_drew, World.size_alloc] at h; exact h)) (Nat.le_succ _)
    have HA10 := Lib.hid hA9
    clear hA9
    go_wp2_with fail
    go_end0
    refine ⟨rfl, _, HA10.out.1, ?_⟩
    have m1 : Mv (pfoot p (.slice ao ko co)) (pfoot p (.slice ao ko co)) w w4 := ⟨(HOX.out.mono (fun _ _ h => h.elim)).trans ((M2.out.only.trans M3.out (fun _ _ h => h)).trans M4.out (fun _ _ h => h)) (fun k _ e => .inl e), fun k hk => .inl hk⟩
    exact m1.trans HA10.out.2

theorem gmay_any (h : Gw w lo p r I vi B vb o vo) (hok : Okw r) (why : Int) (allow : Bool) :
    Calls Try.prog 36 #[.pointer (some ⟨p, 0, none⟩), .int .i64 why, .bool allow] w fun e w' => e = .returned (.bool (mayR r why allow)) ∧ Drawn w w' := by
  have c9 := h.blk.cell 9 _ rfl
  have c0 := h.blk.cell 0 _ rfl
  have c5 := h.blk.cell 5 _ rfl
  have hb1 := hok.p1
  have hb2 := hok.a1
  clear h hok
  unfold mayR
  generalize r.again = a at c9 hb2 ⊢
  generalize r.pl.retries = m at c0 hb1 hb2 ⊢
  generalize r.pl.safe = s at c5 ⊢
  cases allow with
  | false =>
    go_enter Try.func36, Try.ntmps36
    go_wp2
    go_quiet (fail)
    go_wp2
    go_ret
    exact ⟨ret_bool (by simp), Drawn.of _ _⟩
  | true =>
    by_cases h1 : a < m
    · have f1 : decide (a < m) = true := decide_eq_true h1
      have f1i : decide ((a : Int) < (m : Int)) = true := decide_eq_true (by omega)
      rw [f1]
      cases s with
      | true =>
        go_enter Try.func36, Try.ntmps36
        go_wp2
        go_quiet (fail)
        go_wp2
        go_ret
        exact ⟨ret_bool (by simp), Drawn.of _ _⟩
      | false =>
        by_cases h2 : why = 1
        · subst h2
          go_enter Try.func36, Try.ntmps36
          go_wp2
          go_quiet (fail)
          go_wp2
          go_ret
          exact ⟨ret_bool (by simp), Drawn.of _ _⟩
        · have f2 : (why == 1) = false := beq_eq_false_iff_ne.2 h2
          by_cases h3 : why = 4
          · subst h3
            go_enter Try.func36, Try.ntmps36
            go_wp2
            go_quiet (fail)
            go_wp2
            go_ret
            exact ⟨ret_bool (by simp), Drawn.of _ _⟩
          · have f3 : (why == 4) = false := beq_eq_false_iff_ne.2 h3
            rw [f2, f3]
            go_enter Try.func36, Try.ntmps36
            go_wp2
            go_quiet (fail)
            go_wp2
            go_ret
            exact ⟨ret_bool (by simp), Drawn.of _ _⟩
    · have f1 : decide (a < m) = false := decide_eq_false h1
      have f1i : decide ((a : Int) < (m : Int)) = false := decide_eq_false (by omega)
      rw [f1]
      go_enter Try.func36, Try.ntmps36
      go_wp2
      go_quiet (fail)
      go_wp2
      go_ret
      exact ⟨ret_bool (by simp), Drawn.of _ _⟩

/-- A row of numbers, read. -/
theorem ints_at {lo : Nat} {v : Value} {l : List Int} (h : w.ownsRow lo 3 1 v l.length (ints l)) {ao : Option Addr} {n cap : Nat} (hv : v = .slice ao n cap) {i : Nat} (hi : i < l.length) :
    ∃ g, ao = some ⟨g, 0, none⟩ ∧ g < w.heap.size ∧ w.cell? ⟨g, i, none⟩ = some (.int .i64 (l.getD i 0)) := by
  obtain ⟨a, c, e, _, _, _, h4⟩ := ownsRow_slice h
  obtain ⟨g, rfl, hg⟩ := h4 (by omega)
  rw [hv] at e
  injection e with e1 _ _
  exact ⟨g, e1, (ownsRow_lt h g hg).2, by rw [ownsRow_cell h hg i hi, ints_get hi]⟩
theorem idsOf_get {l : List Run} {i : Nat} (h : i < l.length) : (idsOf l).getD i 0 = ((runAt l i).id : Int) := by rw [runAt_eq h]; simp [idsOf, List.getD_eq_getElem?_getD, h]
theorem sincesOf_get {l : List Run} {i : Nat} (h : i < l.length) : (sincesOf l).getD i 0 = ((runAt l i).since : Int) := by rw [runAt_eq h]; simp [sincesOf, List.getD_eq_getElem?_getD, h]

/-- The reference's request by what it holds. -/
def GQ (w : World) (lo p : Nat) (r : Rq) (vi vb : Value) (o : List Ac) (vo : Value) : Prop := Gw w lo p r (idsOf r.runs) vi (sincesOf r.runs) vb o vo

theorem gruns_any (h : GQ w lo p r vi vb o vo) (hl9 : r.runs.length ≤ 64) (id : Int) :
    Calls Try.prog 33 #[.pointer (some ⟨p, 0, none⟩), .int .i64 id] w fun e w' => e = .returned (.bool (hasR r id)) ∧ w = w' := by
  obtain ⟨ai, ci, rfl, hci1, hci2, _, _⟩ := ownsRow_slice h.ids
  have hcm : ci ≤ 9223372036854775807 := by unfold maxLen at hci2; omega
  have H := Lib.hid h
  obtain ⟨kk, hkk⟩ : ∃ kk, kk = r.runs.length := ⟨_, rfl⟩
  unfold GQ at h
  rw [idsOf_len, ← hkk] at hci1 h
  rw [← hkk] at hl9
  rw [idsOf_len, ← hkk] at H
  have c11 := h.blk.cell 11 _ rfl
  have c13 := h.blk.cell 13 _ rfl
  have hpl := h.blk.lt
  have HKK := Lib.hid hkk
  clear h hkk hci2
  unfold hasR
  generalize r.over = ov at c13 ⊢
  go_enter Try.func33, Try.ntmps33
  go_wp2
  go_loop [6, 12] (fun _ i => ∃ j : Nat, j ≤ kk ∧ i = .int .i64 j ∧ Hid (∀ i, i < j → ((runAt r.runs i).id : Int) ≠ id)) (fun _ i => kk - (intOf i).toNat)
  case atStart => exact ⟨0, Nat.zero_le _, rfl, fun i hi => absurd hi (Nat.not_lt_zero _)⟩
  case round =>
    obtain ⟨j, hj, rfl, hF⟩ := hrel
    by_cases hlt : j < kk
    · have hjr : j < r.runs.length := by rw [← HKK.out]; exact hlt
      obtain ⟨g, rfl, hgl, e0⟩ := ints_at H.out.ids (ao := ai) (n := kk) (cap := ci) rfl (i := j) (by rw [idsOf_len]; exact hjr)
      rw [idsOf_get hjr] at e0
      obtain ⟨x, hx⟩ : ∃ x, x = runAt r.runs j := ⟨_, rfl⟩
      rw [← hx] at e0
      have HX := Lib.hid hx
      have HJ := Lib.hid hjr
      clear hx hjr
      by_cases he : (x.id : Int) = id
      · have fe : ((x.id : Int) == id) = true := beq_iff_eq.2 he
        have han : (r.runs.any fun x => (x.id : Int) == id) = true := any_of HJ.out (by rw [← HX.out]; exact he)
        have HAN := Lib.hid han
        clear he han
        go_wp2
        go_ret
        exact ⟨ret_bool (by rw [HAN.out]; simp), rfl⟩
      · have fe : ((x.id : Int) == id) = false := beq_eq_false_iff_ne.2 he
        have hne : ∀ i, i < j + 1 → ((runAt r.runs i).id : Int) ≠ id := fun i hi => by
          rcases Nat.lt_or_ge i j with h1 | h1
          · exact hF.out i h1
          · rw [show i = j by omega, ← HX.out]; exact he
        have HNE := Lib.hid hne
        clear he hne
        go_wp2
        go_round
        case rel => exact ⟨j + 1, by omega, by go_num, HNE.out⟩
        case measure => simp [intOf]; omega
    · have han : (r.runs.any fun x => (x.id : Int) == id) = false := any_none (fun i hi => hF.out i (by have := HKK.out; omega))
      have HAN := Lib.hid han
      clear han
      go_wp2
      go_ret
      exact ⟨ret_bool (by rw [HAN.out]; simp), rfl⟩

theorem ghedging_any (h : GQ w lo p r vi vb o vo) (hok : Okw r) :
    Calls Try.prog 39 #[.pointer (some ⟨p, 0, none⟩)] w fun e w' => e = .returned (.bool (!r.over && hedging r)) ∧ Drawn w w' := by
  obtain ⟨ai, ci, rfl, hci1, hci2, _, _⟩ := ownsRow_slice h.ids
  unfold GQ at h
  have c13 := h.blk.cell 13 _ rfl
  have c14 := h.blk.cell 14 _ rfl
  have c10 := h.blk.cell 10 _ rfl
  have c1 := h.blk.cell 1 _ rfl
  have c11 := h.blk.cell 11 _ rfl
  rw [idsOf_len] at c11
  have hb1 := hok.p2
  have hb2 := hok.a2
  have hb3 := hok.len9
  clear h hok hci1 hci2
  unfold hedging
  generalize r.hedged = a at c10 hb2 ⊢
  generalize r.pl.hedges = m at c1 hb1 hb2 ⊢
  generalize r.tame = s at c14 ⊢
  generalize r.over = ov at c13 ⊢
  generalize r.runs.length = n at c11 hb3 ⊢
  cases ov with
  | true =>
    go_enter Try.func39, Try.ntmps39
    go_wp2
    go_quiet (fail)
    go_wp2
    go_ret
    exact ⟨ret_bool (by simp), Drawn.of _ _⟩
  | false =>
    cases s with
    | true =>
      go_enter Try.func39, Try.ntmps39
      go_wp2
      go_quiet (fail)
      go_wp2
      go_ret
      exact ⟨ret_bool (by simp), Drawn.of _ _⟩
    | false =>
      by_cases h1 : a < m
      · have f1 : decide (a < m) = true := decide_eq_true h1
        have f1i : decide ((a : Int) < (m : Int)) = true := decide_eq_true (by omega)
        rw [f1]
        go_enter Try.func39, Try.ntmps39
        go_wp2
        go_quiet (fail)
        go_wp2
        go_ret
        exact ⟨ret_bool (by simp), Drawn.of _ _⟩
      · have f1 : decide (a < m) = false := decide_eq_false h1
        have f1i : decide ((a : Int) < (m : Int)) = false := decide_eq_false (by omega)
        rw [f1]
        go_enter Try.func39, Try.ntmps39
        go_wp2
        go_quiet (fail)
        go_wp2
        go_ret
        exact ⟨ret_bool (by simp), Drawn.of _ _⟩
end
end Go.Proofs.Ytlcblfkmadjppaa
