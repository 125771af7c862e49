/- PoolNil. -/
import Derived.Test.YtmpcffkandmacaaLaws1
namespace Go.Proofs.Ytmpcffkandmacaa
open Go.RowKit
set_option linter.unusedVariables false
set_option linter.unusedSimpArgs false

theorem rmoment_ok (t : Int) (w : World) (h1 : 0 ≤ t) (h2 : t ≤ 4611686018427387904) : Calls Try.prog 16 #[.int .i64 t] w fun e w' => e = .returned (.bool true) ∧ w = w' := by
  go_enter Try.func16, Try.ntmps16
  go_wp2
  go_ret
  exact ⟨rfl, rfl⟩
theorem rmoment_bad (t : Int) (w : World) (h : t < 0 ∨ 4611686018427387904 < t) : Calls Try.prog 16 #[.int .i64 t] w fun e w' => e = .returned (.bool false) ∧ w = w' := by
  rcases (show t < 0 ∨ (0 ≤ t ∧ 4611686018427387904 < t) by omega) with h1 | ⟨h1, h2⟩
  · have f1 : decide (0 ≤ t) = false := decide_eq_false (by omega)
    clear h
    go_enter Try.func16, Try.ntmps16
    go_wp2
    go_ret
    exact ⟨rfl, rfl⟩
  · have f2 : decide (t ≤ 4611686018427387904) = false := decide_eq_false (by omega)
    clear h
    go_enter Try.func16, Try.ntmps16
    go_wp2
    go_ret
    exact ⟨rfl, rfl⟩
theorem drop_nil (now : Int) (hm : isMoment now) (n : Int) (w : World) : Calls Try.prog 14 #[.pointer none, .int .i64 now, .int .i64 n] w fun e w' => e = .returned (.tuple #[.slice none 0 0, .int .i64 6]) ∧ w = w' := by
  have HM := Lib.hid (fun w => moment_ok now w hm.1 hm.2)
  clear hm
  go_enter Try.func14, Try.ntmps14
  go_wp2_with (go_at_call 23; (refine (HM.out _).mono ?_); rintro e w' ⟨rfl, rfl⟩)
  go_ret2
  exact ⟨rfl, rfl⟩
theorem drop_badm (v : Value) (now : Int) (hm : ¬ isMoment now) (n : Int) (w : World) : Calls Try.prog 14 #[v, .int .i64 now, .int .i64 n] w fun e w' => e = .returned (.tuple #[.slice none 0 0, .int .i64 1]) ∧ w = w' := by
  have HM := Lib.hid (fun w => moment_bad now w (by unfold isMoment at hm; omega))
  clear hm
  go_enter Try.func14, Try.ntmps14
  go_wp2_with (go_at_call 23; (refine (HM.out _).mono ?_); rintro e w' ⟨rfl, rfl⟩)
  go_ret2
  exact ⟨rfl, rfl⟩
theorem expire_nil (now : Int) (hm : isMoment now) (w : World) : Calls Try.prog 15 #[.pointer none, .int .i64 now] w fun e w' => e = .returned (.tuple #[.slice none 0 0, .int .i64 0]) ∧ w = w' := by
  have HM := Lib.hid (fun w => moment_ok now w hm.1 hm.2)
  clear hm
  go_enter Try.func15, Try.ntmps15
  go_wp2_with (go_at_call 23; (refine (HM.out _).mono ?_); rintro e w' ⟨rfl, rfl⟩)
  go_ret2
  exact ⟨rfl, rfl⟩
theorem expire_badm (b : Option Addr) (now : Int) (hm : ¬ isMoment now) (w : World) : Calls Try.prog 15 #[.pointer b, .int .i64 now] w fun e w' => e = .returned (.tuple #[.slice none 0 0, .int .i64 1]) ∧ w = w' := by
  have HM := Lib.hid (fun w => moment_bad now w (by unfold isMoment at hm; omega))
  clear hm
  go_enter Try.func15, Try.ntmps15
  go_wp2_with (go_at_call 23; (refine (HM.out _).mono ?_); rintro e w' ⟨rfl, rfl⟩)
  go_ret2
  exact ⟨rfl, rfl⟩
theorem ask_nil (now who : Int) (hm : isMoment now) (hw : 0 ≤ who) (w : World) : Calls Try.prog 9 #[.pointer none, .int .i64 now, .int .i64 who] w fun e w' => e = .returned (.tuple #[acV ⟨4, -1, who⟩, .int .i64 0]) ∧ Below w.heap.size w w' := by
  have z27 := zero27
  have HM := Lib.hid (fun w => moment_ok now w hm.1 hm.2)
  clear hm
  go_enter Try.func9, Try.ntmps9
  go_upto_region 1 with fail
  have hb1 : Blk (w.alloc (Obj.cells #[.int .i64 0, .int .i64 0, .int .i64 0] 27)) w.heap.size [.int .i64 0, .int .i64 0, .int .i64 0] 27 := Blk.new w [.int .i64 0, .int .i64 0, .int .i64 0] 27
  have ho1 : Only (fun _ => False) w (w.alloc (Obj.cells #[.int .i64 0, .int .i64 0, .int .i64 0] 27)) := (Only.refl _ _).alloc _
  obtain ⟨q, hq⟩ : ∃ q, q = w.heap.size := ⟨_, rfl⟩
  rw [← hq] at hb1 ⊢
  generalize w.alloc (Obj.cells #[.int .i64 0, .int .i64 0, .int .i64 0] 27) = w1 at hb1 ho1 ⊢
  have g0 := hb1.cell 0 _ rfl
  have g1 := hb1.cell 1 _ rfl
  have g2 := hb1.cell 2 _ rfl
  have e0 := hb1.free 0
  have e1 := hb1.free 1
  have e2 := hb1.free 2
  have hql := hb1.lt
  have HB1 := Lib.hid hb1
  have HO1 := Lib.hid ho1
  have HQ := Lib.hid hq
  clear hb1 ho1 hq
  go_wp2_with (go_at_call 23; (refine (HM.out _).mono ?_); rintro e w' ⟨rfl, rfl⟩)
  have hb5 := blk_st3 HB1.out (.int .i64 4) (.int .i64 (-1)) (.int .i64 who)
  have ho5 := only_st3 w1 q (.int .i64 4) (.int .i64 (-1)) (.int .i64 who)
  generalize ((w1.setCell ⟨q, 0, none⟩ (.int .i64 4)).setCell ⟨q, 1, none⟩ (.int .i64 (-1))).setCell ⟨q, 2, none⟩ (.int .i64 who) = w5 at hb5 ho5 ⊢
  have r0 := hb5.cell 0 _ rfl
  have r1 := hb5.cell 1 _ rfl
  have r2 := hb5.cell 2 _ rfl
  clear g0 g1 g2 e0 e1 e2
  (try simp only [Exit.inBlock, Exit.then])
  refine bodyPost_ret (v := .tuple #[.agg #[.int .i64 4, .int .i64 (-1), .int .i64 who], .int .i64 0]) (by simp [results, Try.results9, go_sem, r0, r1, r2]) rfl ?_
  exact ⟨rfl, (HO1.out.below (Nat.le_refl _) (fun _ h => h.elim)).trans (ho5.below HO1.out.size (fun k hk => by rw [hk, HQ.out]; exact Nat.le_refl _))⟩
theorem ask_bad (b : Option Addr) (now who : Int) (hb : ¬ isMoment now ∨ who < 0) (w : World) : Calls Try.prog 9 #[.pointer b, .int .i64 now, .int .i64 who] w fun e w' => e = .returned (.tuple #[acV ⟨0, 0, 0⟩, .int .i64 1]) ∧ Below w.heap.size w w' := by
  have z27 := zero27
  have hmo : ∃ x, (x = 0 → who < 0) ∧ ∀ w, Calls Try.prog 23 #[.int .i64 now] w fun e w' => e = .returned (.int .i64 x) ∧ w = w' := by
    by_cases hm : isMoment now
    · exact ⟨0, fun _ => hb.resolve_left (fun h => h hm), fun w => moment_ok now w hm.1 hm.2⟩
    · exact ⟨1, fun h => absurd h (by decide), fun w => moment_bad now w (by unfold isMoment at hm; omega)⟩
  obtain ⟨x, hx, hmo⟩ := hmo
  have HM := Lib.hid hmo
  clear hb hmo
  go_enter Try.func9, Try.ntmps9
  go_upto_region 1 with fail
  have hb1 : Blk (w.alloc (Obj.cells #[.int .i64 0, .int .i64 0, .int .i64 0] 27)) w.heap.size [.int .i64 0, .int .i64 0, .int .i64 0] 27 := Blk.new w [.int .i64 0, .int .i64 0, .int .i64 0] 27
  have ho1 : Only (fun _ => False) w (w.alloc (Obj.cells #[.int .i64 0, .int .i64 0, .int .i64 0] 27)) := (Only.refl _ _).alloc _
  obtain ⟨q, hq⟩ : ∃ q, q = w.heap.size := ⟨_, rfl⟩
  rw [← hq] at hb1 ⊢
  generalize w.alloc (Obj.cells #[.int .i64 0, .int .i64 0, .int .i64 0] 27) = w1 at hb1 ho1 ⊢
  have g0 := hb1.cell 0 _ rfl
  have g1 := hb1.cell 1 _ rfl
  have g2 := hb1.cell 2 _ rfl
  have e0 := hb1.free 0
  have e1 := hb1.free 1
  have e2 := hb1.free 2
  have hql := hb1.lt
  have HB1 := Lib.hid hb1
  have HO1 := Lib.hid ho1
  have HQ := Lib.hid hq
  have hfin : ∀ w5, w5 = ((w1.setCell ⟨q, 0, none⟩ (.int .i64 0)).setCell ⟨q, 1, none⟩ (.int .i64 0)).setCell ⟨q, 2, none⟩ (.int .i64 0) → Blk w5 q [.int .i64 0, .int .i64 0, .int .i64 0] 27 ∧ Below w.heap.size w w5 := by
    rintro w5 rfl
    exact ⟨blk_st3 HB1.out _ _ _, (HO1.out.below (Nat.le_refl _) (fun _ h => h.elim)).trans ((only_st3 w1 q _ _ _).below HO1.out.size (fun k hk => by rw [hk, HQ.out]; exact Nat.le_refl _))⟩
  have HF := Lib.hid hfin
  clear hb1 ho1 hq hfin
  by_cases hx0 : x = 0
  · subst hx0
    have hw := hx rfl
    clear hx
    go_wp2_with (go_at_call 23; (refine (HM.out _).mono ?_); rintro e w' ⟨rfl, rfl⟩)
    obtain ⟨w5, hw5⟩ : ∃ w5, w5 = ((w1.setCell ⟨q, 0, none⟩ (.int .i64 0)).setCell ⟨q, 1, none⟩ (.int .i64 0)).setCell ⟨q, 2, none⟩ (.int .i64 0) := ⟨_, rfl⟩
    obtain ⟨hb5, hbl⟩ := HF.out _ hw5
    rw [← hw5]
    have r0 := hb5.cell 0 _ rfl
    have r1 := hb5.cell 1 _ rfl
    have r2 := hb5.cell 2 _ rfl
    clear g0 g1 g2 e0 e1 e2
    (try simp only [Exit.inBlock, Exit.then])
    refine bodyPost_ret (v := .tuple #[.agg #[.int .i64 0, .int .i64 0, .int .i64 0], .int .i64 1]) (by simp [results, Try.results9, go_sem, r0, r1, r2]) rfl ?_
    exact ⟨rfl, hbl⟩
  · have f1 : (x == 0) = false := beq_eq_false_iff_ne.2 hx0
    have f2 : (x != 0) = true := by rw [bne, f1]; rfl
    clear hx hx0
    go_wp2_with (go_at_call 23; (refine (HM.out _).mono ?_); rintro e w' ⟨rfl, rfl⟩)
    obtain ⟨w5, hw5⟩ : ∃ w5, w5 = ((w1.setCell ⟨q, 0, none⟩ (.int .i64 0)).setCell ⟨q, 1, none⟩ (.int .i64 0)).setCell ⟨q, 2, none⟩ (.int .i64 0) := ⟨_, rfl⟩
    obtain ⟨hb5, hbl⟩ := HF.out _ hw5
    rw [← hw5]
    have r0 := hb5.cell 0 _ rfl
    have r1 := hb5.cell 1 _ rfl
    have r2 := hb5.cell 2 _ rfl
    clear g0 g1 g2 e0 e1 e2
    (try simp only [Exit.inBlock, Exit.then])
    refine bodyPost_ret (v := .tuple #[.agg #[.int .i64 0, .int .i64 0, .int .i64 0], .int .i64 1]) (by simp [results, Try.results9, go_sem, r0, r1, r2]) rfl ?_
    exact ⟨rfl, hbl⟩
theorem neq27 (a b c : Int) : ∀ w : World, (binOp .neq 27 (.agg #[.int .i64 a, .int .i64 b, .int .i64 c]) (.agg #[.int .i64 a, .int .i64 b, .int .i64 c])).run Try.prog w = .ok (.bool false) w := fun w => by
  simp [go_sem]
set_option maxRecDepth 100000 in
theorem nil_walk (a0 a1 : Int) (w : World) (w0 : (Lit.int .i64 a0).wf = true) (w1 : (Lit.int .i64 a1).wf = true) :
    Calls Try.prog 4 #[.int .i64 a0, .int .i64 a1] w fun e w' => e = .returned (.bool true) ∧ Below w.heap.size w w' := by
  clear w0 w1
  have z27 := zero27
  have hne := neq27 4 (-1) a1
  by_cases hm : isMoment a0
  · have h0 := hm.1
    have h1 := hm.2
    have HMM := Lib.hid hm
    by_cases hw : 0 ≤ a1
    · clear hm
      go_enter Try.func4, Try.ntmps4
      go_upto_region 3 with (go_at_call 9; (with_reducible refine (ask_nil a0 a1 HMM.out hw _).mono ?_); rintro e w2 ⟨rfl, hB1⟩; have HB1 := Lib.hid hB1; clear hB1)
      have hbq : Blk (w2.alloc (Obj.cells #[.int .i64 4, .int .i64 (-1), .int .i64 a1] 27)) w2.heap.size [.int .i64 4, .int .i64 (-1), .int .i64 a1] 27 := Blk.new w2 [.int .i64 4, .int .i64 (-1), .int .i64 a1] 27
      have hoq : Only (fun _ => False) w2 (w2.alloc (Obj.cells #[.int .i64 4, .int .i64 (-1), .int .i64 a1] 27)) := (Only.refl _ _).alloc _
      obtain ⟨q, hq⟩ : ∃ q, q = w2.heap.size := ⟨_, rfl⟩
      rw [← hq] at hbq ⊢
      have HBL := Lib.hid (HB1.out.trans (hoq.below HB1.out.size (fun _ h => h.elim)))
      generalize w2.alloc (Obj.cells #[.int .i64 4, .int .i64 (-1), .int .i64 a1] 27) = w3 at hbq HBL ⊢
      have HBQ := Lib.hid hbq
      clear hbq hoq hq
      go_upto_region 4 with (go_at_call 10; (with_reducible refine (up_nil a1 _).mono ?_); rintro e w4 ⟨rfl, hO⟩; have HO := Lib.hid hO; clear hO)
      have hb4 := HBQ.out.only HO.out (fun h => h)
      have r0 := hb4.cell 0 _ rfl
      have r1 := hb4.cell 1 _ rfl
      have r2 := hb4.cell 2 _ rfl
      have hql := hb4.lt
      clear hb4
      go_wp2_with (first
        | (go_at_call 14; (with_reducible refine (drop_nil a0 HMM.out a1 _).mono ?_); rintro e w' ⟨rfl, rfl⟩)
        | (go_at_call 15; (with_reducible refine (expire_nil a0 HMM.out _).mono ?_); rintro e w' ⟨rfl, rfl⟩)
        | (go_at_call 12; (with_reducible refine (size_nil _).mono ?_); rintro e w' ⟨rfl, rfl⟩)
        | (go_at_call 16; (with_reducible refine (rmoment_ok a0 _ h0 h1).mono ?_); rintro e w' ⟨rfl, rfl⟩)
        | (go_at_call 13; (with_reducible refine (speaks_ok _).mono ?_); rintro e w5 ⟨rfl, hS⟩))
      go_ret
      have hB4 := HBL.out.trans (HO.out.below HBL.out.size (fun _ h => h.elim))
      exact ⟨rfl, hB4.trans (hS.mono hB4.size)⟩
    · have hw' : a1 < 0 := by omega
      have f1 : decide (0 ≤ a1) = false := decide_eq_false (by omega)
      clear hm hw
      go_enter Try.func4, Try.ntmps4
      go_upto_region 3 with (go_at_call 9; (with_reducible refine (ask_bad none a0 a1 (.inr hw') _).mono ?_); rintro e w2 ⟨rfl, hB1⟩; have HB1 := Lib.hid hB1; clear hB1)
      have hoq : Only (fun _ => False) w2 (w2.alloc (Obj.cells #[.int .i64 0, .int .i64 0, .int .i64 0] 27)) := (Only.refl _ _).alloc _
      have HBL := Lib.hid (HB1.out.trans (hoq.below HB1.out.size (fun _ h => h.elim)))
      generalize w2.heap.size = q
      generalize w2.alloc (Obj.cells #[.int .i64 0, .int .i64 0, .int .i64 0] 27) = w3 at HBL ⊢
      clear hoq
      go_wp2_with (first
        | (go_at_call 10; (with_reducible refine (up_nil a1 _).mono ?_); rintro e w4 ⟨rfl, hO⟩; have HO := Lib.hid hO; clear hO)
        | (go_at_call 14; (with_reducible refine (drop_nil a0 HMM.out a1 _).mono ?_); rintro e w' ⟨rfl, rfl⟩)
        | (go_at_call 15; (with_reducible refine (expire_nil a0 HMM.out _).mono ?_); rintro e w' ⟨rfl, rfl⟩)
        | (go_at_call 12; (with_reducible refine (size_nil _).mono ?_); rintro e w' ⟨rfl, rfl⟩)
        | (go_at_call 16; (with_reducible refine (rmoment_ok a0 _ h0 h1).mono ?_); rintro e w' ⟨rfl, rfl⟩)
        | (go_at_call 13; (with_reducible refine (speaks_ok _).mono ?_); rintro e w5 ⟨rfl, hS⟩))
      go_ret
      have hB4 := HBL.out.trans (HO.out.below HBL.out.size (fun _ h => h.elim))
      exact ⟨rfl, hB4.trans (hS.mono hB4.size)⟩
  · have HMM := Lib.hid hm
    have HBB := Lib.hid (show a0 < 0 ∨ 4611686018427387904 < a0 by unfold isMoment at hm; omega)
    clear hm
    go_enter Try.func4, Try.ntmps4
    go_upto_region 3 with (go_at_call 9; (with_reducible refine (ask_bad none a0 a1 (.inl HMM.out) _).mono ?_); rintro e w2 ⟨rfl, hB1⟩; have HB1 := Lib.hid hB1; clear hB1)
    have hoq : Only (fun _ => False) w2 (w2.alloc (Obj.cells #[.int .i64 0, .int .i64 0, .int .i64 0] 27)) := (Only.refl _ _).alloc _
    have HBL := Lib.hid (HB1.out.trans (hoq.below HB1.out.size (fun _ h => h.elim)))
    generalize w2.heap.size = q
    generalize w2.alloc (Obj.cells #[.int .i64 0, .int .i64 0, .int .i64 0] 27) = w3 at HBL ⊢
    clear hoq
    go_wp2_with (first
      | (go_at_call 10; (with_reducible refine (up_nil a1 _).mono ?_); rintro e w4 ⟨rfl, hO⟩; have HO := Lib.hid hO; clear hO)
      | (go_at_call 14; (with_reducible refine (drop_badm _ a0 HMM.out a1 _).mono ?_); rintro e w' ⟨rfl, rfl⟩)
      | (go_at_call 15; (with_reducible refine (expire_badm _ a0 HMM.out _).mono ?_); rintro e w' ⟨rfl, rfl⟩)
      | (go_at_call 12; (with_reducible refine (size_nil _).mono ?_); rintro e w' ⟨rfl, rfl⟩)
      | (go_at_call 16; (with_reducible refine (rmoment_bad a0 _ HBB.out).mono ?_); rintro e w' ⟨rfl, rfl⟩)
      | (go_at_call 13; (with_reducible refine (speaks_ok _).mono ?_); rintro e w5 ⟨rfl, hS⟩))
    go_ret
    have hB4 := HBL.out.trans (HO.out.below HBL.out.size (fun _ h => h.elim))
    exact ⟨rfl, hB4.trans (hS.mono hB4.size)⟩
end Go.Proofs.Ytmpcffkandmacaa
