/- timers.Set. -/
import Derived.Test.YtbbihkddogbicaaWalks9
namespace Go.Proofs.Ytbbihkddogbicaa
open Go.RowKit
set_option linter.unusedVariables false
set_option linter.unusedSimpArgs false

section
variable {F : Nat → Prop} {w : World} {lo p most : Nat} {hp : List Tm} {vh : Value} {used : List Nat} {vu : Value} {taken : List Bool} {vt : Value} {set : Nat} {at_ : Int}

def takenX (ts : List Tm) (n : Nat) : List Bool := if slotOf ts n < n then takenOf ts n else takenOf ts n ++ [false]

theorem length_takenX (ts : List Tm) (used : List Nat) : (takenX ts used.length).length = (usedX ts used).length := by
  unfold takenX usedX
  split <;> simp
theorem slot_any {ts : List Tm} (h : Tw F w lo p most hp vh used vu (takenOf ts used.length) vt set) (hu : used.length ≤ 4096) :
    Calls Try.prog 25 #[.pointer (some ⟨p, 0, none⟩)] w fun e w' => e = .returned (.int .i64 (slotOf ts used.length)) ∧ SlotPost F w w' lo p most hp vh (usedX ts used) (takenX ts used.length) set := by
  by_cases hs : slotOf ts used.length < used.length
  · refine (slot_old h (by simpa using hu) (slotOf ts used.length) (by unfold indexF; rw [if_pos (by rw [length_takenOf]; exact hs)]; rfl)).mono ?_
    rintro e w' ⟨rfl, rfl⟩
    refine ⟨rfl, vu, vt, ?_, Only.refl _ _⟩
    unfold usedX takenX
    rw [if_pos hs, if_pos hs]
    exact h.more
  · refine (slot_new h (by simpa using hu) hu (by unfold indexF; rw [if_neg (by rw [length_takenOf]; exact hs)])).mono ?_
    rintro e w' ⟨rfl, hP⟩
    have := slotOf_le ts used.length
    refine ⟨by rw [length_takenOf, show slotOf ts used.length = used.length by omega], ?_⟩
    unfold usedX takenX
    rw [if_neg hs, if_neg hs]
    exact hP

theorem set_bad (h : at_ < 0 ∨ 4611686018427387904 < at_) (q : Option Addr) (key : Int) (w : World) : Calls Try.prog 11 #[.pointer q, .int .i64 at_, .int .i64 key] w fun e w' => e = .returned (.tuple #[.int .i64 0, .int .i64 1]) ∧ w = w' := by
  have H := Lib.hid h
  clear h
  go_enter Try.func11, Try.ntmps11
  go_wp2_with (go_at_call 24; (with_reducible refine (add_bad _ _ H.out).mono ?_); rintro e w' ⟨rfl, rfl⟩)
  go_ret2
  exact ⟨rfl, rfl⟩
theorem set_nil (h : 0 ≤ at_ ∧ at_ ≤ 4611686018427387904) (key : Int) (w : World) : Calls Try.prog 11 #[.pointer none, .int .i64 at_, .int .i64 key] w fun e w' => e = .returned (.tuple #[.int .i64 0, .int .i64 5]) ∧ Drawn w w' := by
  have H := Lib.hid h
  clear h
  go_enter Try.func11, Try.ntmps11
  go_wp2_with (go_at_call 24; (with_reducible refine (add_ok _ _ H.out).mono ?_); rintro e w' ⟨rfl, rfl⟩)
  go_quiet (fail)
  go_wp2_with fail
  go_ret2
  exact ⟨rfl, Drawn.of _ _⟩
theorem set_full (h : 0 ≤ at_ ∧ at_ ≤ 4611686018427387904) (key : Int) (hT : Tw F w lo p most hp vh used vu taken vt set) (hf : hp.length = most) : Calls Try.prog 11 #[.pointer (some ⟨p, 0, none⟩), .int .i64 at_, .int .i64 key] w fun e w' => e = .returned (.tuple #[.int .i64 0, .int .i64 5]) ∧ Drawn w w' := by
  obtain ⟨a, c, rfl, _, _, _, _⟩ := ownsRow_slice hT.heap
  have c1 := hT.blk.cell 1 _ rfl
  have c0 := hT.blk.cell 0 _ rfl
  rw [hf] at c1
  have H := Lib.hid h
  have HT := Lib.hid hT
  clear h hf hT
  go_enter Try.func11, Try.ntmps11
  go_wp2_with (go_at_call 24; (with_reducible refine (add_ok _ _ H.out).mono ?_); rintro e w' ⟨rfl, rfl⟩)
  go_quiet (fail)
  go_wp2_with fail
  go_ret2
  exact ⟨rfl, Drawn.of _ _⟩

def SetPost (F : Nat → Prop) (w w' : World) (lo p most : Nat) (hp : List Tm) (used : List Nat) (taken : List Bool) (set : Nat) : Prop :=
  ∃ vh' vu' vt', Tw (More F w w') w' lo p most hp vh' used vu' taken vt' set ∧ Only F w w'

theorem four_new (w : World) (a b c d : Value) (t : TypeId) : ∀ j u, [a, b, c, d][j]? = some u → (w.alloc (.cells #[a, b, c, d] t)).cell? ((⟨w.heap.size, 0, none⟩ : Addr).add j) = some u := by
  intro j u hu
  rw [Go.WideShapes.add_plain, Nat.zero_add]
  have h := Blk.new w [a, b, c, d] t
  exact (h.cellAt j).trans hu
theorem four_one (a b c d : Int) : ∀ u ∈ [Value.int .i64 a, .int .i64 b, .int .i64 c, .int .i64 d], u.oneCell' = true := by
  intro u hu
  simp only [List.mem_cons, List.not_mem_nil, or_false] at hu
  rcases hu with rfl | rfl | rfl | rfl <;> rfl

set_option maxRecDepth 100000 in
set_option maxHeartbeats 1600000 in
theorem set_any {ts : List Tm} (hT : Tw F w lo p most hp vh used vu (takenOf ts used.length) vt set) (hm : hp.length < most) (hmm : most ≤ 4096) (hu : used.length ≤ 4096) (hx : (usedX ts used).length ≤ 4096) (hset : set ≤ 1125899906842624) (hul : ∀ i, used.getD i 0 ≤ set)
    {key : Int} (ha : 0 ≤ at_ ∧ at_ ≤ 4611686018427387904) :
    Calls Try.prog 11 #[.pointer (some ⟨p, 0, none⟩), .int .i64 at_, .int .i64 key] w fun e w' => e = .returned (.tuple #[.int .i64 (newOf ts used set at_ key).handle, .int .i64 0]) ∧
      SetPost F w w' lo p most (up (hp ++ [newOf ts used set at_ key]) hp.length) (usedOf ts used) ((takenX ts used.length).set (slotOf ts used.length) true) (set + 1) := by
  obtain ⟨i57, hi57, hz50, hz51, hz52⟩ := info_parts Try.info57
  obtain ⟨ah, ch, rfl, _, _, _, _⟩ := ownsRow_slice hT.heap
  have c1 := hT.blk.cell 1 _ rfl
  have c0 := hT.blk.cell 0 _ rfl
  have g1 : ((hp.length : Int) == (most : Int)) = false := beq_eq_false_iff_ne.2 (by omega)
  have g2 : (hp.length == most) = false := beq_eq_false_iff_ne.2 (by omega)
  have HA := Lib.hid ha
  have HT := Lib.hid hT
  have HUL := Lib.hid hul
  clear ha hT hul
  obtain ⟨i, hi⟩ : ∃ i, i = slotOf ts used.length := ⟨_, rfl⟩
  have HI := Lib.hid hi
  have hxl := length_usedX ts used
  have hix : i < (usedX ts used).length := by rw [hi]; exact hxl.2.2.1
  clear hi hxl
  go_enter Try.func11, Try.ntmps11
  go_wp2_with (go_at_call 24; (with_reducible refine (add_ok _ _ HA.out).mono ?_); rintro e w' ⟨rfl, rfl⟩)
  go_quiet (fail)
  have T0 := Lib.hid (HT.out.only ((Drawn.of w nq).only (fun _ => False)) (fun _ _ => id))
  go_upto_region 7 with (go_at_call 25; (with_reducible refine (slot_any T0.out hu).mono ?_); rintro e w1 ⟨rfl, hP⟩; rw [← HI.out]; have HP := Lib.hid hP; clear hP)
  obtain ⟨vu1, vt1, t1, p1⟩ := HP.out
  have hlx := length_takenX ts used
  obtain ⟨tk, htk⟩ : ∃ tk, tk = takenX ts used.length := ⟨_, rfl⟩
  obtain ⟨us, hus⟩ : ∃ us, us = usedX ts used := ⟨_, rfl⟩
  rw [← htk, ← hus] at hlx t1
  rw [← hus] at hix hx
  have hit : i < tk.length := by omega
  obtain ⟨gt, ct, rfl, a1, a2, a3, a4, a5⟩ := owns_at t1.taken_ hit (List.getElem?_eq_getElem (by rw [List.length_map]; exact hit))
  obtain ⟨b, hb⟩ : ∃ b, b = (tk.map Value.bool)[i]'(by rw [List.length_map]; exact hit) := ⟨_, rfl⟩
  rw [← hb] at a4
  have c3 := t1.blk.cell 3 _ rfl
  have f4 := a5 i
  have T1 := Lib.hid t1
  have P1 := Lib.hid p1
  have A3 := Lib.hid a3
  have HTK := Lib.hid htk
  have HUS := Lib.hid hus
  have HLX := Lib.hid hlx
  clear t1 p1 a3 a5 hb c1 c0 g1 g2 htk hus hlx
  go_upto_region 8 with fail
  have t2 := T1.out.st_taken A3.out hit true
  have p2 : Only (fun k => k = gt) w1 (w1.setCell ⟨gt, i, none⟩ (.bool true)) := (Only.refl (fun k => k = gt) w1).setCell (p := ⟨gt, i, none⟩) (fun _ => rfl) _
  have fgt : More F (w.drewN nq) w1 gt := T1.out.foot gt (.inr (.inr (.inr A3.out)))
  have T2 := Lib.hid t2
  have P2 := Lib.hid p2
  clear t2 p2 c3 f4 a4
  generalize w1.setCell ⟨gt, i, none⟩ (.bool true) = w2 at T2 P2 ⊢
  obtain ⟨n, hn⟩ : ∃ n, n = us.getD i 0 := ⟨_, rfl⟩
  have hnb : n ≤ 1125899906842624 := by rw [hn, HUS.out, usedX_getD]; have := HUL.out i; omega
  obtain ⟨gu, cu, rfl, b1, b2, b3, b4, b5⟩ := owns_at T2.out.used_ hix (used_get hix hn.symm)
  have c2 := T2.out.blk.cell 2 _ rfl
  have f4 := b5 i
  have B3 := Lib.hid b3
  have HNN := Lib.hid hn
  clear b3 b5 hn
  go_upto_region 9 with fail
  have t3 := T2.out.st_used B3.out hix (n + 1)
  have p3 : Only (fun k => k = gu) w2 (w2.setCell ⟨gu, i, none⟩ (.int .i64 ((n : Int) + 1))) := (Only.refl (fun k => k = gu) w2).setCell (p := ⟨gu, i, none⟩) (fun _ => rfl) _
  have fgu : More F (w.drewN nq) w1 gu := T2.out.foot gu (.inr (.inr (.inl B3.out)))
  rw [show ((n + 1 : Nat) : Int) = (n : Int) + 1 from rfl] at t3
  have T3 := Lib.hid t3
  have P3 := Lib.hid p3
  clear t3 p3 c2 f4 b4
  generalize w2.setCell ⟨gu, i, none⟩ (.int .i64 ((n : Int) + 1)) = w3 at T3 P3 ⊢
  have c4 := T3.out.blk.cell 4 _ rfl
  have f4 := T3.out.blk.free 4
  go_upto_region 10 with fail
  have t4 := T3.out.st_set (set + 1)
  have p4 : Only (fun k => k = p) w3 (w3.setCell ⟨p, 4, none⟩ (.int .i64 ((set : Int) + 1))) := (Only.refl (fun k => k = p) w3).setCell (p := ⟨p, 4, none⟩) (fun _ => rfl) _
  have fp : More F (w.drewN nq) w1 p := T3.out.foot p (.inl rfl)
  rw [show ((set + 1 : Nat) : Int) = (set : Int) + 1 from rfl] at t4
  have T4 := Lib.hid t4
  have P4 := Lib.hid p4
  clear t4 p4 c4 f4
  generalize w3.setCell ⟨p, 4, none⟩ (.int .i64 ((set : Int) + 1)) = w4 at T4 P4 ⊢
  have c1 := T4.out.blk.cell 1 _ rfl
  have c4 := T4.out.blk.cell 4 _ rfl
  have f1 := T4.out.blk.free 1
  rw [show ((set + 1 : Nat) : Int) = (set : Int) + 1 from rfl] at c4
  obtain ⟨x, hx⟩ : ∃ x : Tm, x = ⟨at_, set + 1, key, i, n + 1⟩ := ⟨_, rfl⟩
  have HX := Lib.hid hx
  clear hx
  have hpl : p < w4.heap.size := T4.out.blk.lt
  have hlo4 : lo ≤ w4.heap.size := by have := (T4.out.lt p fp).1; omega
  go_region_law (refine step_append_row rfl (.tmp 61) (.tmp 70) 52 rfl lo 57 i57 _ 4 32 Try.underlying52 hi57 hz50 hz51 hz52 rfl (by decide) (.slice ah hp.length ch) hp.length (tmCells hp) rfl (T4.out.heap.alloc _) (some ⟨w4.heap.size, 0, none⟩) 1 1 [.int .i64 at_, .int .i64 ((set : Int) + 1), .int .i64 key, .int .i64 i] rfl rfl (fun _ => ⟨_, rfl, four_new _ _ _ _ _ _⟩) (fun e => by cases e) (four_one _ _ _ _) (by unfold maxLen; omega) (by omega) (by first | (simp only [World.size_drew, World.size_alloc]; omega) | (simp only [World.size_alloc]; omega) | (simp; omega)) ?_; intro v5 w5 hown5 hon5 hat5 _; obtain ⟨a5, k5, rfl, _, _, _, _⟩ := ownsRow_slice hown5; have hon5' : Only (fun i => (Value.slice ah hp.length ch).ownBlock = some i) (w4.alloc (.cells #[.int .i64 at_, .int .i64 ((set : Int) + 1), .int .i64 key, .int .i64 i] 57)) w5 := ⟨hon5.os, hon5.tape, hon5.output, hon5.size, hon5.block⟩; have hb5 := (T4.out.blk.alloc (.cells #[.int .i64 at_, .int .i64 ((set : Int) + 1), .int .i64 key, .int .i64 i] 57)).only hon5' (fun e => T4.out.nh e); have e1 := hb5.cell 1 _ rfl; have g1' := hb5.free 1; have HO5 := Lib.hid hown5; have HN5 := Lib.hid hon5'; have HA5 := Lib.hid hat5; clear hown5 hon5 hon5' hat5 hb5)
  all_goals
    go_upto_region 11 with fail
    have t5 := T4.out.app_heap (x := x) (o := .cells #[.int .i64 at_, .int .i64 ((set : Int) + 1), .int .i64 key, .int .i64 i] 57) (by rw [HX.out]; exact HO5.out) HN5.out (by have h := HA5.out; simp only [World.size_drew, World.size_alloc] at h; exact h)
    have s5 := HN5.out.size
    have S6 := Lib.hid (show (w5.setCell ⟨p, 1, none⟩ (.slice a5 (hp.length + 1) k5)).heap.size = w5.heap.size by simp [World.setCell])
    simp only [World.size_alloc] at s5
    have T5 := Lib.hid t5
    clear t5 c1 c4 f1 e1 g1'
    generalize w5.setCell ⟨p, 1, none⟩ (.slice a5 (hp.length + 1) k5) = w6 at T5 S6 ⊢
    obtain ⟨g, cap, C, e', hH, hFg, hlog, hcap, hC⟩ := T5.out.1.hp_ (by rw [List.length_append, List.length_singleton]; omega) (by rw [List.length_append, List.length_singleton]; omega)
    rw [List.length_append, List.length_singleton] at e'
    injection e' with e1 _ e3
    subst e1 e3
    have d1 := hH.fld
    rw [List.length_append, List.length_singleton] at d1
    have H6 := Lib.hid hH
    have HC6 := Lib.hid hC
    clear hH hC
    have hll : hp.length < (hp ++ [x]).length := by rw [List.length_append, List.length_singleton]; omega
    have HLL := Lib.hid hll
    clear hll
    go_upto_region 12 with (go_at_call 26; (with_reducible refine (up_any H6.out hp.length HLL.out).mono ?_); rintro e w7 ⟨rfl, hU⟩; have H7 := Lib.hid hU.1; have P7 := Lib.hid hU.2; clear hU)
    have t7 := T5.out.1.turn_heap (by rw [List.length_append, List.length_singleton]) H7.out P7.out (length_up _ _ HLL.out) hlog hcap HC6.out
    obtain ⟨gz, cz, e', z1, z2, z3, z4, z5⟩ := owns_at (i := i) t7.used_ (by rw [List.length_set]; exact hix) (used_get (n := n + 1) (by rw [List.length_set]; exact hix) (by rw [getD_set, if_pos ⟨rfl, hix⟩]))
    rw [List.length_set] at e' z1
    injection e' with e1 _ e3
    injection e1 with e1
    injection e1 with e1 _ _
    subst e1 e3
    have y2 := t7.blk.cell 2 _ rfl
    have T7 := Lib.hid t7
    clear t7 z3 z5 d1
    go_wp2_with fail
    go_ret2
    have hN : newOf ts used set at_ key = x := by
      rw [HX.out]
      unfold newOf
      rw [← HI.out, ← HUS.out, ← HNN.out]
    have hU : usedOf ts used = us.set i (n + 1) := by
      unfold usedOf
      rw [← HI.out, ← HUS.out, ← HNN.out]
    have z1' := P1.out.size
    have z2' := P2.out.size
    have z3' := P3.out.size
    have z4' := P4.out.size
    have z6' := S6.out
    have z7' := P7.out.size
    have zw : (w.drewN nq).heap.size = w.heap.size := rfl
    have hM : ∀ k, k < w.heap.size → More F (w.drewN nq) w1 k → F k := fun k hk h => by
      rcases h with h | h
      · exact h
      · omega
    refine ⟨ret_pair (by rw [hN, HX.out]; simp [Tm.handle]) rfl, ?_⟩
    rw [hN, hU, ← HTK.out, ← HI.out]
    refine ⟨_, _, _, T7.out.foots (fun k hk => ?_) (fun k hk => ?_), ?_⟩
    · rcases hk with (hk | hk) | hk
      · exact .inl hk
      · exact .inr (by omega)
      · exact .inr (by omega)
    · rcases hk with hk | hk
      · have := T7.out.lt k (.inl (.inl hk)); omega
      · have := (T7.out.lt p (T7.out.foot p (.inl rfl))).1
        have := HT.out.lt p (HT.out.foot p (.inl rfl))
        omega
    · refine ((((((Only.refl F w).drewN nq).trans P1.out (fun _ _ h => h)).trans P2.out (fun k hk e => hM k hk (by rw [e]; exact fgt))).trans P3.out (fun k hk e => hM k hk (by rw [e]; exact fgu))).trans P4.out (fun k hk e => hM k hk (by rw [e]; exact fp))).trans T5.out.2 (fun k hk h => hM k hk h) |>.trans P7.out (fun k hk e => ?_)
      rw [← e] at hFg
      rcases hFg with h | h
      · exact hM k hk h
      · omega
end
end Go.Proofs.Ytbbihkddogbicaa
