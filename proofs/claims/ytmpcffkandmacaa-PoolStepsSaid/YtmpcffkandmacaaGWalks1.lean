/- The reference: New, Later, end, find, of, waiting, without. -/
import Derived.Test.YtmpcffkandmacaaGBase
namespace Go.Proofs.Ytmpcffkandmacaa
open Go.RowKit
set_option linter.unusedVariables false
set_option linter.unusedSimpArgs false

def GNew (w w' : World) (p : Nat) (P : Pp) : Prop := Gw w' w.heap.size p P [] (.slice none 0 0) (.slice none 0 0) (.slice none 0 0) ∧ Only (fun _ => False) w w'
set_option maxRecDepth 100000 in
theorem gnew_ok (a b c d : Nat) (h : OkN (newP a b c d)) (w : World) : Calls Try.prog 18 #[.int .i64 a, .int .i64 b, .int .i64 c, .int .i64 d] w fun e w' => ∃ p, e = .returned (.tuple #[ptr p, .int .i64 0]) ∧ GNew w w' p (newP a b c d) := by
  obtain ⟨⟨h1, h2⟩, h3, ⟨h4, h5⟩, ⟨h6, h7⟩⟩ := h
  simp only [newP] at h1 h2 h3 h4 h5 h6 h7
  have z60 := zero60
  go_enter Try.func18, Try.ntmps18
  go_wp2
  go_ret2
  refine ⟨w.heap.size, rfl, ⟨Blk.new w (gpC (newP a b c d) (.slice none 0 0) (.slice none 0 0) (.slice none 0 0)) 60, World.ownsRow_nil _ _ _ _, World.ownsRow_nil _ _ _ _, World.ownsRow_nil _ _ _ _, Nat.le_refl _, fun k hk => (by cases hk)⟩, (Only.refl _ _).alloc _⟩
set_option maxRecDepth 100000 in
theorem gnew_bad (a b c d : Int) (h : ¬ (1 ≤ a ∧ a ≤ 64 ∧ 0 ≤ b ∧ b ≤ 64 ∧ (1 ≤ c ∧ c ≤ 1000000) ∧ (1 ≤ d ∧ d ≤ 1000000))) (w : World) : Calls Try.prog 18 #[.int .i64 a, .int .i64 b, .int .i64 c, .int .i64 d] w fun e w' => e = .returned (.tuple #[.pointer none, .int .i64 1]) ∧ w = w' := by
  have hcase : a < 1 ∨ (1 ≤ a ∧ 64 < a) ∨ (1 ≤ a ∧ a ≤ 64 ∧ b < 0) ∨ (1 ≤ a ∧ a ≤ 64 ∧ 0 ≤ b ∧ 64 < b) ∨ (1 ≤ a ∧ a ≤ 64 ∧ 0 ≤ b ∧ b ≤ 64 ∧ c < 1) ∨ (1 ≤ a ∧ a ≤ 64 ∧ 0 ≤ b ∧ b ≤ 64 ∧ 1 ≤ c ∧ 1000000 < c)
      ∨ (1 ≤ a ∧ a ≤ 64 ∧ 0 ≤ b ∧ b ≤ 64 ∧ 1 ≤ c ∧ c ≤ 1000000 ∧ d < 1) ∨ (1 ≤ a ∧ a ≤ 64 ∧ 0 ≤ b ∧ b ≤ 64 ∧ 1 ≤ c ∧ c ≤ 1000000 ∧ 1 ≤ d ∧ 1000000 < d) := by omega
  clear h
  rcases hcase with h1 | ⟨h1, h2⟩ | ⟨h1, h2, h3⟩ | ⟨h1, h2, h3, h4⟩ | ⟨h1, h2, h3, h4, h5⟩ | ⟨h1, h2, h3, h4, h5, h6⟩ | ⟨h1, h2, h3, h4, h5, h6, h7⟩ | ⟨h1, h2, h3, h4, h5, h6, h7, h8⟩
  all_goals
    go_enter Try.func18, Try.ntmps18
    go_wp2
    go_ret2
    exact ⟨rfl, rfl⟩
theorem glater_any (t d : Nat) (w : World) (h1 : t ≤ 4611686018427387904) (h2 : d ≤ 1000000) : Calls Try.prog 61 #[.int .i64 t, .int .i64 d] w fun e w' => e = .returned (.int .i64 (later t d : Nat)) ∧ w = w' := by
  by_cases h : t + d ≤ 4611686018427387904
  · have e : later t d = t + d := if_pos h
    rw [e]
    clear e
    go_enter Try.func61, Try.ntmps61
    go_wp2
    go_ret
    exact ⟨ret_int (by omega), rfl⟩
  · have e : later t d = 4611686018427387904 := if_neg h
    rw [e]
    clear e
    go_enter Try.func61, Try.ntmps61
    go_wp2
    go_ret
    exact ⟨ret_int (by omega), rfl⟩
abbrev gcV (c : Cn) : Value := .agg #[.int .i64 c.num, .int .i64 ((c.st : Int) + 1), .int .i64 c.who, .int .i64 c.since, .int .i64 c.born]
section
variable {w : World} {lo p : Nat} {P : Pp} {R : List Nat} {vl vr vw : Value}
theorem Gw.cells (h : Gw w lo p P R vl vr vw) : w.cell? ⟨p, 0, none⟩ = some (.int .i64 P.cap) ∧ w.cell? ⟨p, 2, none⟩ = some (.int .i64 P.idle) ∧ w.cell? ⟨p, 3, none⟩ = some (.int .i64 P.life) ∧ w.cell? ⟨p, 4, none⟩ = some (.int .i64 P.next) ∧ w.cell? ⟨p, 5, none⟩ = some vl ∧ w.cell? ⟨p, 6, none⟩ = some vr ∧ w.cell? ⟨p, 7, none⟩ = some vw ∧ p < w.heap.size :=
  ⟨h.blk.cell 0 _ rfl, h.blk.cell 2 _ rfl, h.blk.cell 3 _ rfl, h.blk.cell 4 _ rfl, h.blk.cell 5 _ rfl, h.blk.cell 6 _ rfl, h.blk.cell 7 _ rfl, h.blk.lt⟩
set_option maxRecDepth 100000 in
/-- When a connection is not good any more. -/
theorem gend_any (h : Gw w lo p P R vl vr vw) (hn : OkN P) (c : Cn) (h1 : c.since ≤ 4611686018427387904) (h2 : c.born ≤ 4611686018427387904) :
    Calls Try.prog 45 #[ptr p, gcV c] w fun e w' => e = .returned (.int .i64 (endC P c)) ∧ Only (fun _ => False) w w' := by
  have i2 := hn.i.2
  have f2 := hn.f.2
  have H := Lib.hid h
  unfold endC
  have a1 : ∀ w, Calls Try.prog 61 #[.int .i64 c.since, .int .i64 P.idle] w fun e w' => e = .returned (.int .i64 (later c.since P.idle : Nat)) ∧ w = w' := fun w => glater_any _ _ w h1 i2
  have a2 : ∀ w, Calls Try.prog 61 #[.int .i64 c.born, .int .i64 P.life] w fun e w' => e = .returned (.int .i64 (later c.born P.life : Nat)) ∧ w = w' := fun w => glater_any _ _ w h2 f2
  generalize later c.since P.idle = x at a1 ⊢
  generalize later c.born P.life = y at a2 ⊢
  have A1 := Lib.hid a1
  have A2 := Lib.hid a2
  clear h hn h1 h2 i2 f2 a1 a2
  obtain ⟨m, hm⟩ : ∃ m, m = min x y := ⟨_, rfl⟩
  rw [← hm]
  have HM := Lib.hid hm
  clear hm
  obtain ⟨num, st, who, sn, bo, nth⟩ := c
  simp only at A1 A2
  go_enter Try.func45, Try.ntmps45
  go_upto_region 1 with fail
  have ho : Only (fun _ => False) w (w.alloc (Obj.cells #[.int .i64 num, .int .i64 ((st : Int) + 1), .int .i64 who, .int .i64 sn, .int .i64 bo] 97)) := (Only.refl _ _).alloc _
  have hb : Blk (w.alloc (Obj.cells #[.int .i64 num, .int .i64 ((st : Int) + 1), .int .i64 who, .int .i64 sn, .int .i64 bo] 97)) w.heap.size [.int .i64 num, .int .i64 ((st : Int) + 1), .int .i64 who, .int .i64 sn, .int .i64 bo] 97 := Blk.new w [.int .i64 num, .int .i64 ((st : Int) + 1), .int .i64 who, .int .i64 sn, .int .i64 bo] 97
  have HO := Lib.hid ho
  obtain ⟨q, hq⟩ : ∃ q, q = w.heap.size := ⟨_, rfl⟩
  rw [← hq] at hb ⊢
  generalize w.alloc (Obj.cells #[.int .i64 num, .int .i64 ((st : Int) + 1), .int .i64 who, .int .i64 sn, .int .i64 bo] 97) = w1 at hb ho HO ⊢
  obtain ⟨_, d2, d3, _, _, _, _, hpl⟩ := (H.out.only0 ho).cells
  have c3 := hb.cell 3 _ rfl
  have c4 := hb.cell 4 _ rfl
  have hbl := hb.lt
  generalize P.idle = pi at d2 A1
  generalize P.life = pf at d3 A2
  clear hb ho hq
  go_wp2
  go_quiet ((go_at_call 61; refine (A1.out _).mono ?_; rintro e w' ⟨rfl, rfl⟩; exact ⟨rfl, _, rfl⟩))
  go_wp2
  go_quiet ((go_at_call 61; refine (A2.out _).mono ?_; rintro e w' ⟨rfl, rfl⟩; exact ⟨rfl, _, rfl⟩))
  have HOF : ∀ w5, Drawn w1 w5 → Only (fun _ => False) w w5 := fun w5 hd => HO.out.trans (hd.only (fun _ => False)) (fun _ _ h => h)
  have HOF := Lib.hid HOF
  by_cases hyx : y < x
  · have f1 : decide ((y : Int) < (x : Int)) = true := decide_eq_true (by omega)
    have f1n : decide (y < x) = true := decide_eq_true hyx
    have hm : m = y := by have := HM.out; omega
    subst hm
    go_wp2
    go_ret
    exact ⟨rfl, HOF.out _ (Drawn.of _ _)⟩
  · have f1 : decide ((y : Int) < (x : Int)) = false := decide_eq_false (by omega)
    have f1n : decide (y < x) = false := decide_eq_false hyx
    have hm : m = x := by have := HM.out; omega
    subst hm
    go_wp2
    go_ret
    exact ⟨rfl, HOF.out _ (Drawn.of _ _)⟩

set_option maxRecDepth 100000 in
set_option maxHeartbeats 800000 in
theorem find_any (h : Gw w lo p P R vl vr vw) (n : Int) :
    Calls Try.prog 58 #[ptr p, .int .i64 n] w fun e w' => e = .returned (.int .i64 (idxV (atI P n))) ∧ Only (fun _ => False) w w' := by
  have z97 := zero97
  obtain ⟨k, hk⟩ : ∃ k, k = P.l.length := ⟨_, rfl⟩
  obtain ⟨ao, cap, rfl, h1, h2, _, _⟩ := ownsRow_slice h.row
  have hcm : cap ≤ 9223372036854775807 := by unfold maxLen at h2; omega
  obtain ⟨r, hr⟩ : ∃ r, r = idxV (atI P n) := ⟨_, rfl⟩
  rw [← hr]
  rw [← hk] at h1 h
  obtain ⟨_, _, _, _, d5, _, _, hpl⟩ := h.cells
  have H := Lib.hid h
  have HK := Lib.hid hk
  have HR := Lib.hid hr
  clear h hk h2 hr
  go_enter Try.func58, Try.ntmps58
  go_upto_region 2 with fail
  clear d5 hpl
  go_loopw [5, 6, 12] (fun _ _ i wr => ∃ j : Nat, j ≤ k ∧ i = .int .i64 j ∧ Only (fun _ => False) w wr ∧ ∀ i, i < j → ((cnAt P.l i).num : Int) ≠ n) (fun _ _ i _ => k - (intOf i).toNat)
  case atStart => exact ⟨0, Nat.zero_le _, rfl, Only.refl _ _, fun i hi => absurd hi (by omega)⟩
  case round =>
    obtain ⟨j, hj, rfl, hO, hF⟩ := hrel
    have HO := Lib.hid hO
    have HF := Lib.hid hF
    clear hF
    by_cases hlt : j < k
    · have hjl : j < P.l.length := by rw [← HK.out]; exact hlt
      obtain ⟨g, cap', e, _, _, hgl, c0, c1, c2, c3, c4, _⟩ := (H.out.only0 hO).at_ hjl
      injection e with e1 _ e3
      subst e1 e3
      obtain ⟨c, hc⟩ : ∃ c, c = cnAt P.l j := ⟨_, rfl⟩
      rw [← hc] at c0 c1 c2 c3 c4
      have HC := Lib.hid hc
      obtain ⟨num, st, who, sn, bo, nth⟩ := c
      simp only at c0 c1 c2 c3 c4
      clear hc hO
      go_upto_region 4 with fail
      have HO4 := Lib.hid (HO.out.trans ((Only.refl (fun _ => False) wr).alloc (Obj.cells #[.int .i64 num, .int .i64 ((st : Int) + 1), .int .i64 who, .int .i64 sn, .int .i64 bo] 97)) (fun _ _ h => h))
      have hb4 : Blk (wr.alloc (Obj.cells #[.int .i64 num, .int .i64 ((st : Int) + 1), .int .i64 who, .int .i64 sn, .int .i64 bo] 97)) wr.heap.size [.int .i64 num, .int .i64 ((st : Int) + 1), .int .i64 who, .int .i64 sn, .int .i64 bo] 97 := Blk.new wr [.int .i64 num, .int .i64 ((st : Int) + 1), .int .i64 who, .int .i64 sn, .int .i64 bo] 97
      obtain ⟨q, hq⟩ : ∃ q, q = wr.heap.size := ⟨_, rfl⟩
      rw [← hq] at hb4 ⊢
      clear hq c0 c1 c2 c3 c4
      generalize wr.alloc (Obj.cells #[.int .i64 num, .int .i64 ((st : Int) + 1), .int .i64 who, .int .i64 sn, .int .i64 bo] 97) = w4 at hb4 HO4 ⊢
      have k0 := hb4.cell 0 _ rfl
      have hql := hb4.lt
      clear hb4
      by_cases he : (num : Int) = n
      · have HE := Lib.hid he
        subst he
        go_wp2
        go_ret
        refine ⟨ret_int ?_, HO4.out⟩
        rw [HR.out]
        have hfi : atI P (num : Int) = some j := by
          unfold atI
          rw [List.findIdx?_eq_some_iff_getElem]
          refine ⟨hjl, ?_, fun i hi => ?_⟩
          · rw [← cnAt_eq hjl, ← HC.out]; simp
          · have := HF.out i hi
            rw [cnAt_eq (by omega)] at this
            simpa using this
        rw [hfi]
        rfl
      · have f1 : ((num : Int) == n) = false := beq_eq_false_iff_ne.2 he
        have HE := Lib.hid he
        clear he
        go_wp2
        go_roundw
        case rel =>
          refine ⟨j + 1, by omega, by go_num, HO4.out, fun i hi => ?_⟩
          rcases (show i < j ∨ i = j by omega) with h | rfl
          · exact HF.out i h
          · rw [← HC.out]; exact HE.out
        case measure => simp [intOf]; omega
    · have hnone : atI P n = none := by
        unfold atI
        rw [List.findIdx?_eq_none_iff]
        intro x hx
        obtain ⟨i, hi, rfl⟩ := List.getElem_of_mem hx
        have := HF.out i (by have := HK.out; omega)
        rw [cnAt_eq hi] at this
        exact decide_eq_false this
      have HNO := Lib.hid hnone
      clear hnone hO
      go_wp2
      go_ret
      exact ⟨ret_int (by rw [HR.out, HNO.out]; rfl), HO.out⟩

set_option maxRecDepth 100000 in
set_option maxHeartbeats 800000 in
theorem gof_any (h : Gw w lo p P R vl vr vw) (n : Int) :
    Calls Try.prog 55 #[ptr p, .int .i64 n] w fun e w' => e = .returned (.int .i64 (idxV (ofI P n))) ∧ Only (fun _ => False) w w' := by
  have z97 := zero97
  obtain ⟨k, hk⟩ : ∃ k, k = P.l.length := ⟨_, rfl⟩
  obtain ⟨ao, cap, rfl, h1, h2, _, _⟩ := ownsRow_slice h.row
  have hcm : cap ≤ 9223372036854775807 := by unfold maxLen at h2; omega
  obtain ⟨r, hr⟩ : ∃ r, r = idxV (ofI P n) := ⟨_, rfl⟩
  rw [← hr]
  rw [← hk] at h1 h
  obtain ⟨_, _, _, _, d5, _, _, hpl⟩ := h.cells
  have H := Lib.hid h
  have HK := Lib.hid hk
  have HR := Lib.hid hr
  clear h hk h2 hr
  go_enter Try.func55, Try.ntmps55
  go_upto_region 2 with fail
  clear d5 hpl
  go_loopw [5, 6, 12] (fun _ _ i wr => ∃ j : Nat, j ≤ k ∧ i = .int .i64 j ∧ Only (fun _ => False) w wr ∧ ∀ i, i < j → ¬ ((cnAt P.l i).st ≠ 2 ∧ (cnAt P.l i).who = n)) (fun _ _ i _ => k - (intOf i).toNat)
  case atStart => exact ⟨0, Nat.zero_le _, rfl, Only.refl _ _, fun i hi => absurd hi (by omega)⟩
  case round =>
    obtain ⟨j, hj, rfl, hO, hF⟩ := hrel
    have HO := Lib.hid hO
    have HF := Lib.hid hF
    clear hF
    by_cases hlt : j < k
    · have hjl : j < P.l.length := by rw [← HK.out]; exact hlt
      obtain ⟨g, cap', e, _, _, hgl, c0, c1, c2, c3, c4, _⟩ := (H.out.only0 hO).at_ hjl
      injection e with e1 _ e3
      subst e1 e3
      obtain ⟨c, hc⟩ : ∃ c, c = cnAt P.l j := ⟨_, rfl⟩
      rw [← hc] at c0 c1 c2 c3 c4
      have HC := Lib.hid hc
      obtain ⟨num, st, who, sn, bo, nth⟩ := c
      simp only at c0 c1 c2 c3 c4
      clear hc hO
      go_upto_region 4 with fail
      have HO4 := Lib.hid (HO.out.trans ((Only.refl (fun _ => False) wr).alloc (Obj.cells #[.int .i64 num, .int .i64 ((st : Int) + 1), .int .i64 who, .int .i64 sn, .int .i64 bo] 97)) (fun _ _ h => h))
      have hb4 : Blk (wr.alloc (Obj.cells #[.int .i64 num, .int .i64 ((st : Int) + 1), .int .i64 who, .int .i64 sn, .int .i64 bo] 97)) wr.heap.size [.int .i64 num, .int .i64 ((st : Int) + 1), .int .i64 who, .int .i64 sn, .int .i64 bo] 97 := Blk.new wr [.int .i64 num, .int .i64 ((st : Int) + 1), .int .i64 who, .int .i64 sn, .int .i64 bo] 97
      obtain ⟨q, hq⟩ : ∃ q, q = wr.heap.size := ⟨_, rfl⟩
      rw [← hq] at hb4 ⊢
      clear hq c0 c1 c2 c3 c4
      generalize wr.alloc (Obj.cells #[.int .i64 num, .int .i64 ((st : Int) + 1), .int .i64 who, .int .i64 sn, .int .i64 bo] 97) = w4 at hb4 HO4 ⊢
      have k1 := hb4.cell 1 _ rfl
      have k2 := hb4.cell 2 _ rfl
      have hql := hb4.lt
      clear hb4
      by_cases he : st ≠ 2 ∧ who = n
      · obtain ⟨hs, he2⟩ := he
        have f1 : (((st : Int) + 1) == 3) = false := beq_eq_false_iff_ne.2 (by omega)
        have f1n : (((st : Int) + 1) != 3) = true := by rw [bne, f1]; rfl
        have HE := Lib.hid hs
        subst he2
        generalize (st : Int) + 1 = s1 at k1 f1 f1n
        clear hs
        go_wp2
        go_ret
        refine ⟨ret_int ?_, HO4.out⟩
        rw [HR.out]
        have hfi : ofI P who = some j := by
          unfold ofI
          rw [List.findIdx?_eq_some_iff_getElem]
          refine ⟨hjl, ?_, fun i hi => ?_⟩
          · rw [← cnAt_eq hjl, ← HC.out]
            have := HE.out
            simp [this]
          · have := HF.out i hi
            rw [cnAt_eq (by omega)] at this
            simpa using this
        rw [hfi]
        rfl
      · have HE := Lib.hid he
        have hrel2 : ∃ j' : Nat, j' = j + 1 ∧ ∀ i, i < j' → ¬ ((cnAt P.l i).st ≠ 2 ∧ (cnAt P.l i).who = n) := ⟨_, rfl, fun i hi => by
          rcases (show i < j ∨ i = j by omega) with h | rfl
          · exact HF.out i h
          · rw [← HC.out]; exact HE.out⟩
        obtain ⟨j', hj', hrel2⟩ := hrel2
        have HR2 := Lib.hid hrel2
        clear hrel2
        by_cases hs : st = 2
        · subst hs
          clear he HE
          go_wp2
          go_roundw
          case rel => exact ⟨j', by omega, by rw [hj']; go_num, HO4.out, HR2.out⟩
          case measure => simp [intOf]; omega
        · have hw : who ≠ n := fun e => he ⟨hs, e⟩
          have f1 : (((st : Int) + 1) == 3) = false := beq_eq_false_iff_ne.2 (by omega)
          have f1n : (((st : Int) + 1) != 3) = true := by rw [bne, f1]; rfl
          have f2 : (who == n) = false := beq_eq_false_iff_ne.2 hw
          generalize (st : Int) + 1 = s1 at k1 f1 f1n
          clear he HE hs hw
          go_wp2
          go_roundw
          case rel => exact ⟨j', by omega, by rw [hj']; go_num, HO4.out, HR2.out⟩
          case measure => simp [intOf]; omega
    · have hnone : ofI P n = none := by
        unfold ofI
        rw [List.findIdx?_eq_none_iff]
        intro x hx
        obtain ⟨i, hi, rfl⟩ := List.getElem_of_mem hx
        have := HF.out i (by have := HK.out; omega)
        rw [cnAt_eq hi] at this
        simpa using this
      have HNO := Lib.hid hnone
      clear hnone hO
      go_wp2
      go_ret
      exact ⟨ret_int (by rw [HR.out, HNO.out]; rfl), HO.out⟩

theorem gwaiting_any (h : Gw w lo p P R vl vr vw) (who : Int) :
    Calls Try.prog 56 #[ptr p, .int .i64 who] w fun e w' => e = .returned (.int .i64 (idxV (P.waits.findIdx? fun x => decide (x = who)))) ∧ w = w' := by
  have hI := iRow_of h.wt
  obtain ⟨ao, cap, rfl, h1, h2, _⟩ := id hI
  obtain ⟨n, hn⟩ : ∃ n, n = P.waits.length := ⟨_, rfl⟩
  obtain ⟨r, hr⟩ : ∃ r, r = idxV (P.waits.findIdx? fun x => decide (x = who)) := ⟨_, rfl⟩
  rw [← hr]
  rw [← hn] at h1 hI h
  have h4 : ∀ i, i < n → ∃ g, ao = some ⟨g, 0, none⟩ ∧ g < w.heap.size ∧ w.cell? ⟨g, i, none⟩ = some (.int .i64 (P.waits.getD i 0)) := fun i hi => hI.at_ rfl (by omega)
  obtain ⟨_, _, _, _, _, _, d7, hpl⟩ := h.cells
  have H4 := Lib.hid h4
  have HR := Lib.hid hr
  have HN := Lib.hid hn
  clear h h4 hr hn hI
  go_enter Try.func56, Try.ntmps56
  go_wp2
  go_loop [5, 6, 12] (fun _ _ i => ∃ j : Nat, j ≤ n ∧ i = .int .i64 j ∧ ∀ k, k < j → P.waits.getD k 0 ≠ who) (fun _ _ i => n - (intOf i).toNat)
  case atStart => exact ⟨0, Nat.zero_le _, rfl, fun k hk => absurd hk (by omega)⟩
  case round =>
    obtain ⟨j, hj, rfl, hF⟩ := hrel
    have HF := Lib.hid hF
    clear hF
    by_cases hlt : j < n
    · obtain ⟨g, rfl, hgl, c0⟩ := H4.out j hlt
      obtain ⟨x, hx⟩ : ∃ x, x = P.waits.getD j 0 := ⟨_, rfl⟩
      rw [← hx] at c0
      have HX := Lib.hid hx
      clear hx
      by_cases hxw : x = who
      · subst hxw
        go_wp2
        go_ret
        refine ⟨ret_int ?_, rfl⟩
        rw [HR.out]
        have hfi : P.waits.findIdx? (fun y => decide (y = x)) = some j := by
          rw [List.findIdx?_eq_some_iff_getElem]
          have hjl : j < P.waits.length := by rw [← HN.out]; exact hlt
          refine ⟨hjl, ?_, fun k hk => ?_⟩
          · have := HX.out
            rw [List.getD_eq_getElem?_getD, List.getElem?_eq_getElem hjl] at this
            exact decide_eq_true this.symm
          · have := HF.out k hk
            rw [List.getD_eq_getElem?_getD, List.getElem?_eq_getElem (by omega)] at this
            simpa using this
        rw [hfi]
        rfl
      · have f1 : (x == who) = false := beq_eq_false_iff_ne.2 hxw
        have HXW := Lib.hid hxw
        clear hxw
        go_wp2
        go_round
        case rel =>
          refine ⟨j + 1, by omega, by go_num, fun k hk => ?_⟩
          rcases (show k < j ∨ k = j by omega) with h | rfl
          · exact HF.out k h
          · rw [← HX.out]; exact HXW.out
        case measure => simp [intOf]; omega
    · have hnone : P.waits.findIdx? (fun x => decide (x = who)) = none := by
        rw [List.findIdx?_eq_none_iff]
        intro x hx
        obtain ⟨k, hk, rfl⟩ := List.getElem_of_mem hx
        have := HF.out k (by have := HN.out; omega)
        rw [List.getD_eq_getElem?_getD, List.getElem?_eq_getElem hk] at this
        exact decide_eq_false this
      have HNO := Lib.hid hnone
      clear hnone
      go_wp2
      go_ret
      exact ⟨ret_int (by rw [HR.out, HNO.out]; rfl), rfl⟩

theorem erase_take {l : List Int} {i j : Nat} (hj : j < l.length) : (l.take (j + 1)).eraseIdx i = if i = j then (l.take j).eraseIdx i else (l.take j).eraseIdx i ++ [l.getD j 0] := by
  rw [List.take_succ_eq_append_getElem hj]
  have e : l.getD j 0 = l[j] := by simp [List.getD_eq_getElem?_getD, hj]
  rw [e]
  by_cases h : i < j
  · rw [if_neg (by omega), List.eraseIdx_append_of_lt_length (by rw [List.length_take]; omega)]
  · by_cases h2 : i = j
    · subst h2
      rw [if_pos rfl, List.eraseIdx_append_of_length_le (by rw [List.length_take]; omega)]
      rw [List.length_take, Nat.min_eq_left (by omega), Nat.sub_self, List.eraseIdx_of_length_le (l := l.take i) (by rw [List.length_take]; omega)]
      simp
    · rw [if_neg h2, List.eraseIdx_of_length_le (by rw [List.length_append, List.length_take, List.length_singleton]; omega), List.eraseIdx_of_length_le (by rw [List.length_take]; omega)]
set_option maxRecDepth 100000 in
theorem without_any {v : Value} {l : List Int} (h : IRow w v l) (hl : l.length ≤ 1000) (i : Nat) :
    Calls Try.prog 62 #[v, .int .i64 i] w fun e w' => ∃ v', e = .returned v' ∧ w'.ownsRow w.heap.size 3 1 v' (l.eraseIdx i).length (ints (l.eraseIdx i)) ∧ Only (fun _ => False) w w' := by
  obtain ⟨i3, hi3, hz0, hz1, hz2⟩ := info_parts Try.info3
  obtain ⟨ao, cap, rfl, h1, h2, _⟩ := id h
  obtain ⟨n, hn⟩ : ∃ n, n = l.length := ⟨_, rfl⟩
  have h4 : ∀ w', Only (fun _ => False) w w' → ∀ i, i < n → ∃ g, ao = some ⟨g, 0, none⟩ ∧ g < w'.heap.size ∧ w'.cell? ⟨g, i, none⟩ = some (.int .i64 (l.getD i 0)) := fun w' ho i hi => (h.only ho).at_ rfl (by omega)
  rw [← hn] at h1 hl ⊢
  have H4 := Lib.hid h4
  have HN := Lib.hid hn
  clear h h4 hn
  go_enter Try.func62, Try.ntmps62
  go_upto_region 3 with fail
  go_loopw [5, 6, 7, 10] (fun o _ _ k wr => ∃ j : Nat, j ≤ n ∧ k = .int .i64 j ∧ wr.ownsRow w.heap.size 3 1 o ((l.take j).eraseIdx i).length (ints ((l.take j).eraseIdx i)) ∧ Only (fun _ => False) w wr) (fun _ _ _ k _ => n - (intOf k).toNat)
  case atStart => exact ⟨0, Nat.zero_le _, rfl, World.ownsRow_nil _ _ _ _, Only.refl _ _⟩
  case round =>
    obtain ⟨j, hj, rfl, hrow, hO⟩ := hrel
    obtain ⟨L, hL⟩ : ∃ L, L = (l.take j).eraseIdx i := ⟨_, rfl⟩
    rw [← hL] at hrow
    have hll : L.length ≤ j := by
      rw [hL, List.length_eraseIdx]
      split <;> (rw [List.length_take]; omega)
    obtain ⟨ax, cx, rfl, hx1, hx2, _, _⟩ := ownsRow_slice hrow
    have HROW := Lib.hid hrow
    have HL := Lib.hid hL
    have HO := Lib.hid hO
    clear hrow hL
    by_cases hlt : j < n
    · obtain ⟨g, rfl, hgl, c0⟩ := H4.out wr hO j hlt
      have hst := erase_take (l := l) (i := i) (j := j) (by rw [← HN.out]; exact hlt)
      rw [← HL.out] at hst
      obtain ⟨x, hx⟩ : ∃ x, x = l.getD j 0 := ⟨_, rfl⟩
      rw [← hx] at c0 hst
      have HST := Lib.hid hst
      clear hst hx
      by_cases hij : i = j
      · have HS := Lib.hid (show (l.take (j + 1)).eraseIdx i = L by rw [HST.out, if_pos hij])
        subst hij
        clear hO
        go_wp2_with fail
        go_roundw
        case rel => exact ⟨i + 1, by omega, by go_num, by rw [HS.out]; exact HROW.out, HO.out⟩
        case measure => simp [intOf]; omega
      · have HS := Lib.hid (show (l.take (j + 1)).eraseIdx i = L ++ [x] by rw [HST.out, if_neg hij])
        have f1 : ((j : Int) == (i : Int)) = false := beq_eq_false_iff_ne.2 (by omega)
        have f1n : (j == i) = false := beq_eq_false_iff_ne.2 (by omega)
        have hsz := hO.size
        clear hij hO
        go_upto_region 7 with (at_builtin; refine wpList_append_row rfl (.tmp 18) (.tmp 20) 51 rfl w.heap.size 3 i3 (.int .i64 0) 1 8 Try.underlying51 hi3 hz0 hz1 hz2 rfl (by decide) (.slice ax L.length cx) L.length (ints L) rfl (HROW.out.alloc _) (some ⟨wr.heap.size, 0, none⟩) 1 1 [.int .i64 x] rfl rfl (fun _ => ⟨_, rfl, new_one _ _ _⟩) (fun e => by cases e) (one_int _ _) (by unfold maxLen; omega) (by omega) (by simp only [World.size_alloc]; omega) ?_; intro v9 w9 hown9 hon9 hat9 _; obtain ⟨a9, k9, rfl, _, _, _, _⟩ := ownsRow_slice hown9; have HO9 := Lib.hid hown9; have HN9 := Lib.hid (show Only (fun _ => False) w w9 from (HO.out.trans ((Only.refl (fun _ => False) wr).alloc (Obj.cells #[.int .i64 x] 3)) (fun _ _ h => h)).trans hon9 (fun k hk e => by have := (ownsRow_lt HROW.out k e).1; omega)); clear hown9 hon9 hat9)
        go_wp2_with fail
        go_roundw
        case rel => exact ⟨j + 1, by omega, by go_num, by rw [HS.out, List.length_append, List.length_singleton, ints_append]; exact HO9.out, HN9.out⟩
        case measure => simp [intOf]; omega
    · have hjn : j = n := by omega
      have hLf : L = l.eraseIdx i := by rw [HL.out, hjn, HN.out, List.take_length]
      have HLF := Lib.hid hLf
      clear hLf hO
      go_wp2_with fail
      go_ret
      exact ⟨_, rfl, by rw [← HLF.out]; exact HROW.out, HO.out⟩
end
end Go.Proofs.Ytmpcffkandmacaa
