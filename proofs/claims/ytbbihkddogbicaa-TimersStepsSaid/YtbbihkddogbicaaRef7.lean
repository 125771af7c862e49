/- The reference's timers: Set. -/
import Derived.Test.YtbbihkddogbicaaRef6
namespace Go.Proofs.Ytbbihkddogbicaa
open Go.RowKit
set_option linter.unusedVariables false
set_option linter.unusedSimpArgs false

section
variable {F : Nat → Prop} {w : World} {lo p most : Nat} {ts : List Tm} {vl : Value} {used : List Nat} {vg : Value} {at_ : Int} {set : Nat}

set_option maxRecDepth 100000 in
set_option maxHeartbeats 1600000 in
theorem r_set_any (hT : Tr F w lo p most ts vl used vg) (hok : Ok most ts used set) (hm : ts.length < most) (hset : set ≤ 1125899906842624) {key : Int} (ha : 0 ≤ at_ ∧ at_ ≤ 4611686018427387904) :
    Calls Try.prog 12 #[.pointer (some ⟨p, 0, none⟩), .int .i64 at_, .int .i64 key] w fun e w' => e = .returned (.tuple #[.int .i64 (newOf ts used set at_ key).handle, .int .i64 0]) ∧
      RPost F w w' lo p most (ts ++ [newOf ts used set at_ key]) (usedOf ts used) := by
  obtain ⟨i60, hi60, hz0, hz1, hz2⟩ := info_parts Try.info60
  obtain ⟨al, cl, rfl, _, _, _, _⟩ := ownsRow_slice hT.row
  have c1 := hT.blk.cell 1 _ rfl
  have c0 := hT.blk.cell 0 _ rfl
  have g1 : decide ((most : Int) ≤ (ts.length : Int)) = false := decide_eq_false (by omega)
  have g2 : decide (most ≤ ts.length) = false := decide_eq_false (by omega)
  have hmm := hok.most_
  have hroom := hok.room
  have hr1 := hok.room1 hm
  have HA := Lib.hid ha
  have HT := Lib.hid hT
  have HOK := Lib.hid hok
  clear ha hT hok
  obtain ⟨i, hi⟩ : ∃ i, i = slotOf ts used.length := ⟨_, rfl⟩
  have HI := Lib.hid hi
  have hxl := length_usedX ts used
  have hix : i < (usedX ts used).length := by rw [hi]; exact hxl.2.2.1
  clear hi hxl
  go_enter Try.func12, Try.ntmps12
  go_wp2_with (go_at_call 23; (with_reducible refine (rmoment_ok _ _ HA.out.1 HA.out.2).mono ?_); rintro e w' ⟨rfl, rfl⟩)
  go_quiet (fail)
  have T0 := Lib.hid (HT.out.only ((Drawn.of w nq).only (fun _ => False)) (fun _ _ => id))
  go_upto_region 6 with (go_at_call 28; (with_reducible refine (r_slot T0.out (by omega) (by omega) (fun t ht => HOK.out.slot_lt ht) (fun t ht => by have := (HOK.out.age_pos ht).2; omega)).mono ?_); rintro e w1 ⟨rfl, hP⟩; rw [← HI.out]; have HP := Lib.hid hP; clear hP)
  obtain ⟨vl1, vg1, t1, p1⟩ := HP.out
  obtain ⟨us, hus⟩ : ∃ us, us = usedX ts used := ⟨_, rfl⟩
  rw [← hus] at t1 hix hr1
  obtain ⟨n, hn⟩ : ∃ n, n = us.getD i 0 := ⟨_, rfl⟩
  have hnb : n ≤ 1125899906842624 := by rw [hn, hus, usedX_getD]; have := used_le HOK.out i; omega
  obtain ⟨gu, cu, rfl, b1, b2, b3, b4, b5⟩ := owns_at t1.gens hix (used_get hix hn.symm)
  have c2 := t1.blk.cell 2 _ rfl
  have f4 := b5 i
  have T1 := Lib.hid t1
  have P1 := Lib.hid p1
  have B3 := Lib.hid b3
  have HUS := Lib.hid hus
  have HNN := Lib.hid hn
  clear t1 p1 b3 b5 c1 c0 g1 g2 hus hn
  go_region
  go_upto_region 7 with fail
  have t3 := T1.out.st_gens B3.out hix (n + 1)
  have p3 : Only (fun k => k = gu) w1 (w1.setCell ⟨gu, i, none⟩ (.int .i64 ((n : Int) + 1))) := (Only.refl (fun k => k = gu) w1).setCell (p := ⟨gu, i, none⟩) (fun _ => rfl) _
  have fgu : More F (w.drewN nq) w1 gu := T1.out.foot gu (.inr (.inr B3.out))
  rw [show ((n + 1 : Nat) : Int) = (n : Int) + 1 from rfl] at t3
  have T3 := Lib.hid (t3.only ((Only.refl (fun _ => False) _).drew) (fun _ _ => id))
  have P3 := Lib.hid p3.drew
  clear t3 p3 c2 f4 b4
  generalize (w1.setCell ⟨gu, i, none⟩ (.int .i64 ((n : Int) + 1))).drew = w3 at T3 P3 ⊢
  obtain ⟨x, hx⟩ : ∃ x : Tm, x = ⟨at_, set + 1, key, i, n + 1⟩ := ⟨_, rfl⟩
  obtain ⟨h, hh⟩ : ∃ h, h = x.handle := ⟨_, rfl⟩
  have eh : ((n : Int) + 1) * 4096 + (i : Int) = (h : Int) := by rw [hh, hx]; simp [Tm.handle]
  obtain ⟨gz, cz, e', z1, z2, z3, z4, z5⟩ := owns_at (i := i) T3.out.gens (by rw [List.length_set]; exact hix) (used_get (n := n + 1) (by rw [List.length_set]; exact hix) (by rw [getD_set, if_pos ⟨rfl, hix⟩]))
  rw [List.length_set] at e' z1
  injection e' with e1 _ e3
  injection e1 with e1
  injection e1 with e1 _ _
  subst e1 e3
  rw [show ((n + 1 : Nat) : Int) = (n : Int) + 1 from rfl] at z4
  have c2 := T3.out.blk.cell 2 _ rfl
  have HX := Lib.hid hx
  have HH := Lib.hid hh
  clear hx hh z3 z5
  go_upto_region 8 with fail
  have hb : Blk (w3.alloc (Obj.cells #[.int .i64 at_, .int .i64 key, .int .i64 h] 60)) w3.heap.size [.int .i64 at_, .int .i64 key, .int .i64 h] 60 := Blk.new w3 [.int .i64 at_, .int .i64 key, .int .i64 h] 60
  have o4 : Only (fun _ => False) w3 (w3.alloc (Obj.cells #[.int .i64 at_, .int .i64 key, .int .i64 h] 60)) := (Only.refl _ _).alloc _
  have HB := Lib.hid hb
  have O4 := Lib.hid o4
  clear hb o4
  obtain ⟨r1, hr1'⟩ : ∃ r, r = w3.heap.size := ⟨_, rfl⟩
  rw [← hr1'] at HB ⊢
  generalize w3.alloc (Obj.cells #[.int .i64 at_, .int .i64 key, .int .i64 h] 60) = w4 at HB O4 ⊢
  have nr1 : ¬ More F (w.drewN nq) w1 r1 := fun hF => by have := (T3.out.lt r1 hF).2; omega
  have HR1 := Lib.hid hr1'
  clear hr1' z4 c2 eh
  have T4 := Lib.hid (T3.out.only O4.out (fun _ _ => id))
  obtain ⟨av, cv, rfl, _, _, _, _⟩ := ownsRow_slice T4.out.row
  have c1 := T4.out.blk.cell 1 _ rfl
  have f1 := T4.out.blk.free 1
  have k0 := HB.out.cell 0 _ rfl
  have k1 := HB.out.cell 1 _ rfl
  have k2 := HB.out.cell 2 _ rfl
  have hpl : p < w4.heap.size := T4.out.blk.lt
  have hrl : r1 < w4.heap.size := HB.out.lt
  have hlo4 : lo ≤ w4.heap.size := by have := (T4.out.lt p (T4.out.foot p (.inl rfl))).1; omega
  have htl : ts.length ≤ 4096 := by omega
  go_region_law (refine step_append_row rfl (.tmp 56) (.tmp 58) 44 rfl lo 60 i60 _ 3 24 Try.underlying44 hi60 hz0 hz1 hz2 rfl (by decide) (.slice av ts.length cv) ts.length (rtCells ts) rfl (T4.out.row.alloc _) (some ⟨w4.heap.size, 0, none⟩) 1 1 [.int .i64 at_, .int .i64 key, .int .i64 h] rfl rfl (fun _ => ⟨_, rfl, three_new _ _ _ _ _⟩) (fun e => by cases e) (three_one _ _ _) (by unfold maxLen; omega) (by omega) (by first | (simp only [World.size_drew, World.size_alloc]; omega) | (simp only [World.size_alloc]; omega) | (simp; omega)) ?_; intro v5 w5 hown5 hon5 hat5 _; obtain ⟨a5, k5, rfl, _, _, _, _⟩ := ownsRow_slice hown5; have hon5' : Only (fun i => (Value.slice av ts.length cv).ownBlock = some i) (w4.alloc (.cells #[.int .i64 at_, .int .i64 key, .int .i64 h] 60)) w5 := ⟨hon5.os, hon5.tape, hon5.output, hon5.size, hon5.block⟩; have hb5 := (T4.out.blk.alloc (.cells #[.int .i64 at_, .int .i64 key, .int .i64 h] 60)).only hon5' (fun e => T4.out.nl e); have e1 := hb5.cell 1 _ rfl; have g1' := hb5.free 1; have HO5 := Lib.hid hown5; have HN5 := Lib.hid hon5'; have HA5 := Lib.hid hat5; clear hown5 hon5 hon5' hat5 hb5)
  all_goals
    go_upto_region 9 with fail
    have t5 := T4.out.app_row (x := x) (o := .cells #[.int .i64 at_, .int .i64 key, .int .i64 h] 60) (by unfold rtC; rw [← HH.out, HX.out]; exact HO5.out) HN5.out (by have h := HA5.out; simp only [World.size_drew, World.size_alloc] at h; exact h)
    have p5 : Only (fun k => k = p) w5 (w5.setCell ⟨p, 1, none⟩ (.slice a5 (ts.length + 1) k5)) := (Only.refl (fun k => k = p) w5).setCell (p := ⟨p, 1, none⟩) (fun _ => rfl) _
    have s5 := HN5.out.size
    have S6 := Lib.hid (show (w5.setCell ⟨p, 1, none⟩ (.slice a5 (ts.length + 1) k5)).heap.size = w5.heap.size by simp [World.setCell])
    simp only [World.size_alloc] at s5
    have fp : More F (w.drewN nq) w1 p := T4.out.foot p (.inl rfl)
    have hb6 := ((HB.out.alloc (.cells #[.int .i64 at_, .int .i64 key, .int .i64 h] 60)).only HN5.out (fun e => nr1 (T4.out.foot r1 (.inr (.inl e))))).only p5 (fun e => nr1 (by rw [e]; exact fp))
    have m2 := hb6.cell 2 _ rfl
    have T5 := Lib.hid t5
    clear t5 c1 f1 e1 g1' k0 k1 k2 hb6 p5
    generalize w5.setCell ⟨p, 1, none⟩ (.slice a5 (ts.length + 1) k5) = w6 at T5 S6 m2 ⊢
    go_wp2_with fail
    go_ret2
    have hN : newOf ts used set at_ key = x := by
      rw [HX.out]
      unfold newOf
      rw [← HI.out, ← HUS.out, ← HNN.out]
    have hU : usedOf ts used = us.set i (n + 1) := by
      unfold usedOf
      rw [← HI.out, ← HUS.out, ← HNN.out]
    have y1 := P1.out.size
    have y3 := P3.out.size
    have y4 := O4.out.size
    have y6 := S6.out
    have zw : (w.drewN nq).heap.size = w.heap.size := rfl
    have hM : ∀ k, k < w.heap.size → More F (w.drewN nq) w1 k → F k := fun k hk h => by
      rcases h with h | h
      · exact h
      · omega
    refine ⟨ret_pair (by rw [hN]; exact congrArg (fun k : Nat => Value.int .i64 (k : Int)) HH.out) rfl, ?_⟩
    rw [hN, hU]
    refine ⟨_, _, T5.out.1.foots (fun k hk => ?_) (fun k hk => ?_), ?_⟩
    · rcases hk with (hk | hk) | hk
      · exact .inl hk
      · exact .inr (by omega)
      · exact .inr (by omega)
    · rcases hk with hk | hk
      · have := T5.out.1.lt k (.inl (.inl hk)); omega
      · have := (T5.out.1.lt p (T5.out.1.foot p (.inl rfl))).1
        have := HT.out.lt p (HT.out.foot p (.inl rfl))
        omega
    · exact ((((((Only.refl F w).drewN nq).trans P1.out (fun _ _ h => h)).trans P3.out (fun k hk e => hM k hk (by rw [e]; exact fgu))).trans O4.out (fun _ _ h => h.elim))).trans T5.out.2 (fun k hk h => hM k hk h)
end
end Go.Proofs.Ytbbihkddogbicaa
