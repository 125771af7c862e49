/- timers.take. -/
import Derived.Test.YtbbihkddogbicaaWalks8
import Derived.Test.YtbbihkddogbicaaWalks3
namespace Go.Proofs.Ytbbihkddogbicaa
open Go.RowKit
set_option linter.unusedVariables false
set_option linter.unusedSimpArgs false

section
variable {F : Nat → Prop} {w : World} {lo p most : Nat} {hp : List Tm} {vh : Value} {used : List Nat} {vu : Value} {taken : List Bool} {vt : Value} {set : Nat}

def TakePost (F : Nat → Prop) (w w' : World) (lo p most : Nat) (hp : List Tm) (used : List Nat) (vu : Value) (taken : List Bool) (vt : Value) (set : Nat) : Prop :=
  ∃ vh', Tw F w' lo p most hp vh' used vu taken vt set ∧ Only F w w'

theorem take_cells (h : List Tm) (n : Nat) (x : Tm) (i : Nat) (hn : n = h.length - 1) (hx : x = nth_ h n) : (h.set i x).take n = cutAt h i := by
  subst hn hx
  unfold cutAt
  rw [List.dropLast_eq_take, List.length_set]

set_option maxRecDepth 100000 in
set_option maxHeartbeats 1600000 in
theorem take_any (h : Tw F w lo p most hp vh used vu taken vt set) (hm : hp.length ≤ 4096) (i : Nat) (hi : i < hp.length) (hs : (nth_ hp i).slot < taken.length) (htl : taken.length ≤ 4096) :
    Calls Try.prog 30 #[.pointer (some ⟨p, 0, none⟩), .int .i64 i] w fun e w' => e = .returned (tmV (nth_ hp i)) ∧ TakePost F w w' lo p most (takeH hp i) used vu (taken.set (nth_ hp i).slot false) vt set := by
  obtain ⟨g, cap, C, rfl, hH, hFg, hlog, hcap, hC⟩ := h.hp_ hm (by omega)
  obtain ⟨x, hx⟩ : ∃ x, x = nth_ hp i := ⟨_, rfl⟩
  obtain ⟨a0, a1, a2, a3⟩ := hH.cells hi
  have c1 := hH.fld
  have hle := hH.le
  rw [← hx] at a0 a1 a2 a3 hs ⊢
  have hfp := h.foot p (.inl rfl)
  have hltg := (h.lt g hFg).2
  have hltp := (h.lt p hfp).2
  have hne := hH.ne
  have hna : ∀ k, w.heap.size ≤ k → ¬ F k := fun k hk hF => by have := (h.lt k hF).2; omega
  have HX := Lib.hid hx
  have HT := Lib.hid h
  have HH := Lib.hid hH
  have HNA := Lib.hid hna
  have HC := Lib.hid hC
  clear h hH hx hna hC
  obtain ⟨n, hn⟩ : ∃ n, n = hp.length - 1 := ⟨_, rfl⟩
  have en : (hp.length : Int) - 1 = (n : Int) := by omega
  have hnl : n < hp.length := by omega
  have hin : i ≤ n := by omega
  have HN := Lib.hid hn
  clear hn
  have o1 : Only (fun _ => False) w ((w.alloc (Obj.cells #[.int .i64 0, .int .i64 0, .int .i64 0, .int .i64 0] 57)).alloc (Obj.cells #[.int .i64 x.at_, .int .i64 x.nth, .int .i64 x.key, .int .i64 x.slot] 57)) := ((Only.refl _ _).alloc _).alloc _
  have b0 : Blk ((w.alloc (Obj.cells #[.int .i64 0, .int .i64 0, .int .i64 0, .int .i64 0] 57)).alloc (Obj.cells #[.int .i64 x.at_, .int .i64 x.nth, .int .i64 x.key, .int .i64 x.slot] 57)) w.heap.size [.int .i64 0, .int .i64 0, .int .i64 0, .int .i64 0] 57 := (Blk.new w [.int .i64 0, .int .i64 0, .int .i64 0, .int .i64 0] 57).alloc _
  have b1 : Blk ((w.alloc (Obj.cells #[.int .i64 0, .int .i64 0, .int .i64 0, .int .i64 0] 57)).alloc (Obj.cells #[.int .i64 x.at_, .int .i64 x.nth, .int .i64 x.key, .int .i64 x.slot] 57)) (w.heap.size + 1) (tmC x) 57 := by
    have := Blk.new (w.alloc (Obj.cells #[.int .i64 0, .int .i64 0, .int .i64 0, .int .i64 0] 57)) (tmC x) 57
    rw [World.size_alloc] at this
    exact this
  have HO1 := Lib.hid o1
  have B0 := Lib.hid b0
  have B1 := Lib.hid b1
  clear o1 b0 b1
  go_enter Try.func30, Try.ntmps30
  go_upto_region 3 with fail
  generalize (w.alloc (Obj.cells #[.int .i64 0, .int .i64 0, .int .i64 0, .int .i64 0] 57)).alloc (Obj.cells #[.int .i64 x.at_, .int .i64 x.nth, .int .i64 x.key, .int .i64 x.slot] 57) = w1 at HO1 B0 B1 ⊢
  obtain ⟨r0, hr0⟩ : ∃ r, r = w.heap.size := ⟨_, rfl⟩
  obtain ⟨r1, hr1⟩ : ∃ r, r = w.heap.size + 1 := ⟨_, rfl⟩
  rw [← hr1] at B1 ⊢
  rw [← hr0] at B0 ⊢
  have n0 : ¬ F r0 := HNA.out r0 (by omega)
  have n1 : ¬ F r1 := HNA.out r1 (by omega)
  have n01 : r0 ≠ r1 := by omega
  have HR := Lib.hid (show r0 = w.heap.size ∧ r1 = w.heap.size + 1 from ⟨hr0, hr1⟩)
  clear hr0 hr1 a0 a1 a2 a3 c1
  have T1 := Lib.hid (HT.out.only HO1.out (fun _ _ => id))
  have H1 := HH.out.only HO1.out id id
  obtain ⟨y, hy⟩ : ∃ y, y = nth_ hp n := ⟨_, rfl⟩
  obtain ⟨y0, y1, y2, y3⟩ := H1.cells hnl
  rw [← hy] at y0 y1 y2 y3
  have c1 := H1.fld
  have ff : ∀ o, w1.frozen? ⟨g, o, none⟩ = false := fun o => H1.row.free o
  obtain ⟨x0, x1, x2, x3⟩ := H1.cells hi
  have H1' := Lib.hid H1
  have HY := Lib.hid hy
  clear H1 hy
  go_region
  go_upto_region 4 with fail
  have q2 : Hp (put4 w1 g (i * 4) y).drew p g cap (hp.set i y) C := (H1'.out.put hi y).drew
  have p2 : Only (fun k => k = g) w1 (put4 w1 g (i * 4) y).drew := ((Only.refl (fun k => k = g) w1).put4 (fun _ => rfl) _ _).drew
  have Q2 := Lib.hid q2
  have P2 := Lib.hid p2
  clear q2 p2
  unfold put4 at Q2 P2
  generalize ((((w1.setCell ⟨g, i * 4, none⟩ (.int .i64 y.at_)).setCell ⟨g, i * 4 + 1, none⟩ (.int .i64 y.nth)).setCell ⟨g, i * 4 + 2, none⟩ (.int .i64 y.key)).setCell ⟨g, i * 4 + 3, none⟩ (.int .i64 y.slot)).drew = w2 at Q2 P2 ⊢
  have T2 := Lib.hid (T1.out.turn_heap rfl Q2.out P2.out (List.length_set ..) hlog hcap HC.out)
  have gr0 : r0 ≠ g := fun e => n0 (by rw [e]; exact hFg)
  have gr1 : r1 ≠ g := fun e => n1 (by rw [e]; exact hFg)
  have B02 := Lib.hid (B0.out.only P2.out gr0)
  have B12 := Lib.hid (B1.out.only P2.out gr1)
  have d1 := Q2.out.fld
  have f1 := T2.out.blk.free 1
  rw [List.length_set] at d1
  clear y0 y1 y2 y3 x0 x1 x2 x3 c1 ff B0 B1
  go_upto_region 5 with fail
  have t3 := T2.out.cut_heap (n := n) (by rw [List.length_set]) (by rw [List.length_set]; omega) (by rw [List.length_set]; omega)
  rw [take_cells hp n y i HN.out HY.out] at t3
  have p3 : Only (fun k => k = p) w2 (w2.setCell ⟨p, 1, none⟩ (.slice (some ⟨g, 0, none⟩) n cap)) := (Only.refl (fun k => k = p) w2).setCell (p := ⟨p, 1, none⟩) (fun _ => rfl) _
  have T3 := Lib.hid t3
  have P3 := Lib.hid p3
  clear t3 p3 d1 f1
  generalize w2.setCell ⟨p, 1, none⟩ (.slice (some ⟨g, 0, none⟩) n cap) = w3 at T3 P3 ⊢
  have pr0 : r0 ≠ p := fun e => n0 (by rw [e]; exact hfp)
  have pr1 : r1 ≠ p := fun e => n1 (by rw [e]; exact hfp)
  have B03 := Lib.hid (B02.out.only P3.out pr0)
  have B13 := Lib.hid (B12.out.only P3.out pr1)
  have hcl : (cutAt hp i).length = n := by rw [length_cut]; exact HN.out.symm
  have HCL := Lib.hid hcl
  clear hcl B02 B12
  have HO3 := Lib.hid (((HO1.out.mono (T := F) (fun _ _ h => h.elim)).trans P2.out (fun k _ e => by rw [e]; exact hFg)).trans P3.out (fun k _ e => by rw [e]; exact hfp))
  by_cases c : i < n
  · obtain ⟨g', cap', C', e', h3, -, hlog', hcap', hC'⟩ := T3.out.hp_ (by rw [HCL.out]; omega) (by rw [HCL.out]; omega)
    rw [HCL.out] at e'
    injection e' with e1 _ e3
    injection e1 with e1
    injection e1 with e1 _ _
    subst e1 e3
    have H3 := Lib.hid h3
    have HC3 := Lib.hid hC'
    clear h3 hC'
    go_wp2_with (first
      | (go_at_call 37; (with_reducible refine (down_any H3.out i (by rw [HCL.out]; exact c)).mono ?_); rintro e w4 ⟨rfl, hU4⟩; have H4 := Lib.hid hU4.1; have P4 := Lib.hid hU4.2; clear hU4)
      | (go_at_call 26; (with_reducible refine (up_any H4.out i (by rw [length_down _ _ (by rw [HCL.out]; exact c), HCL.out]; exact c)).mono ?_); rintro e w5 ⟨rfl, hU5⟩; have H5 := Lib.hid hU5.1; have P5 := Lib.hid hU5.2; clear hU5))
    go_upto_region 8 with fail
    have t4 := T3.out.turn_heap (by rw [HCL.out]) H4.out P4.out (length_down _ _ (by rw [HCL.out]; exact c)) hlog' hcap' HC3.out
    have T4 := Lib.hid t4
    have t5 := t4.turn_heap (by rw [length_down _ _ (by rw [HCL.out]; exact c), HCL.out]) H5.out P5.out (length_up _ _ (by rw [length_down _ _ (by rw [HCL.out]; exact c), HCL.out]; exact c)) hlog' hcap' (by rw [List.length_append, length_tmCells, length_down _ _ (by rw [HCL.out]; exact c)]; have := HC3.out; rw [List.length_append, length_tmCells] at this; exact this)
    rw [show up (down (cutAt hp i) i) i = takeH hp i from by unfold takeH; rw [if_pos (by have := HN.out; omega)]] at t5
    have T5 := Lib.hid t5
    have HO5 := Lib.hid ((HO3.out.trans P4.out (fun k _ e => by rw [e]; exact hFg)).trans P5.out (fun k _ e => by rw [e]; exact hFg))
    have B05 := Lib.hid ((B03.out.only P4.out gr0).only P5.out gr0)
    have B15 := Lib.hid ((B13.out.only P4.out gr1).only P5.out gr1)
    clear t4 t5
    obtain ⟨gt, ct, rfl, t1, t2, t3, t4, t5⟩ := owns_at T5.out.taken_ hs (List.getElem?_eq_getElem (by rw [List.length_map]; exact hs))
    have c3 := T5.out.blk.cell 3 _ rfl
    have s3 := B15.out.cell 3 _ rfl
    have f3 := t5 x.slot
    obtain ⟨u, hu⟩ : ∃ u, u = (taken.map Value.bool)[x.slot]'(by rw [List.length_map]; exact hs) := ⟨_, rfl⟩
    rw [← hu] at t4
    have T3' := Lib.hid t3
    clear t3 t5 hu
    go_region
    go_upto_region 9 with fail
    have t6 := T5.out.st_taken T3'.out hs false
    have p6 : Only (fun k => k = gt) w5 (w5.setCell ⟨gt, x.slot, none⟩ (.bool false)) := (Only.refl (fun k => k = gt) w5).setCell (p := ⟨gt, x.slot, none⟩) (fun _ => rfl) _
    have T6 := Lib.hid (t6.only ((Only.refl (fun _ => False) _).drew) (fun _ _ => id))
    have P6 := Lib.hid p6.drew
    clear t6 p6
    generalize (w5.setCell ⟨gt, x.slot, none⟩ (.bool false)).drew = w6 at T6 P6 ⊢
    have fgt : F gt := T5.out.foot gt (.inr (.inr (.inr T3'.out)))
    have B06 := B05.out.only P6.out (fun e => n0 (by rw [e]; exact fgt))
    have B16 := B15.out.only P6.out (fun e => n1 (by rw [e]; exact fgt))
    obtain ⟨m0, m1, m2, m3⟩ : w6.cell? ⟨r1, 0, none⟩ = some (.int .i64 x.at_) ∧ w6.cell? ⟨r1, 1, none⟩ = some (.int .i64 x.nth) ∧ w6.cell? ⟨r1, 2, none⟩ = some (.int .i64 x.key) ∧ w6.cell? ⟨r1, 3, none⟩ = some (.int .i64 x.slot) := ⟨B16.cell 0 _ rfl, B16.cell 1 _ rfl, B16.cell 2 _ rfl, B16.cell 3 _ rfl⟩
    obtain ⟨l0, l1, l2, l3⟩ : w6.cell? ⟨r0, 0, none⟩ = some (.int .i64 0) ∧ w6.cell? ⟨r0, 1, none⟩ = some (.int .i64 0) ∧ w6.cell? ⟨r0, 2, none⟩ = some (.int .i64 0) ∧ w6.cell? ⟨r0, 3, none⟩ = some (.int .i64 0) := ⟨B06.cell 0 _ rfl, B06.cell 1 _ rfl, B06.cell 2 _ rfl, B06.cell 3 _ rfl⟩
    have ff : ∀ o, w6.frozen? ⟨r0, o, none⟩ = false := fun o => B06.free o
    have B06' := Lib.hid B06
    clear B06 B16 c3 s3 f3 t4
    go_wp2_with fail
    have b7 : Blk (put4 w6 r0 0 x) r0 (tmC x) 57 := B06'.out.set4 0 x
    have p7 : Only (fun k => k = r0) w6 (put4 w6 r0 0 x) := (Only.refl (fun k => k = r0) w6).put4 (fun _ => rfl) _ _
    unfold put4 at b7 p7
    simp only [Nat.zero_add] at b7 p7
    generalize (((w6.setCell ⟨r0, 0, none⟩ (.int .i64 x.at_)).setCell ⟨r0, 1, none⟩ (.int .i64 x.nth)).setCell ⟨r0, 2, none⟩ (.int .i64 x.key)).setCell ⟨r0, 3, none⟩ (.int .i64 x.slot) = w7 at b7 p7 ⊢
    obtain ⟨v0, v1, v2, v3⟩ : w7.cell? ⟨r0, 0, none⟩ = some (.int .i64 x.at_) ∧ w7.cell? ⟨r0, 1, none⟩ = some (.int .i64 x.nth) ∧ w7.cell? ⟨r0, 2, none⟩ = some (.int .i64 x.key) ∧ w7.cell? ⟨r0, 3, none⟩ = some (.int .i64 x.slot) := ⟨b7.cell 0 _ rfl, b7.cell 1 _ rfl, b7.cell 2 _ rfl, b7.cell 3 _ rfl⟩
    have T7 := T6.out.only p7 (fun k hk e => n0 (by rw [← e]; exact hk))
    have hr0 := HR.out.1
    refine bodyPost_ret (v := tmV x) (by simp [results, Try.results30, go_sem, v0, v1, v2, v3]) rfl ⟨rfl, _, T7, ?_⟩
    exact (HO5.out.trans P6.out (fun k _ e => by rw [e]; exact fgt)).trans p7 (fun k hk e => by omega)
  · go_upto_region 8 with fail
    have T5 := Lib.hid (show Tw F w3 lo p most (takeH hp i) (.slice (some ⟨g, 0, none⟩) n cap) used vu taken vt set from by rw [show takeH hp i = cutAt hp i from by unfold takeH; rw [if_neg (by have := HN.out; omega)]]; exact T3.out)
    have HO5 := HO3
    have B05 := B03
    have B15 := B13
    obtain ⟨gt, ct, rfl, t1, t2, t3, t4, t5⟩ := owns_at T5.out.taken_ hs (List.getElem?_eq_getElem (by rw [List.length_map]; exact hs))
    have c3 := T5.out.blk.cell 3 _ rfl
    have s3 := B15.out.cell 3 _ rfl
    have f3 := t5 x.slot
    obtain ⟨u, hu⟩ : ∃ u, u = (taken.map Value.bool)[x.slot]'(by rw [List.length_map]; exact hs) := ⟨_, rfl⟩
    rw [← hu] at t4
    have T3' := Lib.hid t3
    clear t3 t5 hu
    go_region
    go_upto_region 9 with fail
    have t6 := T5.out.st_taken T3'.out hs false
    have p6 : Only (fun k => k = gt) w3 (w3.setCell ⟨gt, x.slot, none⟩ (.bool false)) := (Only.refl (fun k => k = gt) w3).setCell (p := ⟨gt, x.slot, none⟩) (fun _ => rfl) _
    have T6 := Lib.hid (t6.only ((Only.refl (fun _ => False) _).drew) (fun _ _ => id))
    have P6 := Lib.hid p6.drew
    clear t6 p6
    generalize (w3.setCell ⟨gt, x.slot, none⟩ (.bool false)).drew = w6 at T6 P6 ⊢
    have fgt : F gt := T5.out.foot gt (.inr (.inr (.inr T3'.out)))
    have B06 := B05.out.only P6.out (fun e => n0 (by rw [e]; exact fgt))
    have B16 := B15.out.only P6.out (fun e => n1 (by rw [e]; exact fgt))
    obtain ⟨m0, m1, m2, m3⟩ : w6.cell? ⟨r1, 0, none⟩ = some (.int .i64 x.at_) ∧ w6.cell? ⟨r1, 1, none⟩ = some (.int .i64 x.nth) ∧ w6.cell? ⟨r1, 2, none⟩ = some (.int .i64 x.key) ∧ w6.cell? ⟨r1, 3, none⟩ = some (.int .i64 x.slot) := ⟨B16.cell 0 _ rfl, B16.cell 1 _ rfl, B16.cell 2 _ rfl, B16.cell 3 _ rfl⟩
    obtain ⟨l0, l1, l2, l3⟩ : w6.cell? ⟨r0, 0, none⟩ = some (.int .i64 0) ∧ w6.cell? ⟨r0, 1, none⟩ = some (.int .i64 0) ∧ w6.cell? ⟨r0, 2, none⟩ = some (.int .i64 0) ∧ w6.cell? ⟨r0, 3, none⟩ = some (.int .i64 0) := ⟨B06.cell 0 _ rfl, B06.cell 1 _ rfl, B06.cell 2 _ rfl, B06.cell 3 _ rfl⟩
    have ff : ∀ o, w6.frozen? ⟨r0, o, none⟩ = false := fun o => B06.free o
    have B06' := Lib.hid B06
    clear B06 B16 c3 s3 f3 t4
    go_wp2_with fail
    have b7 : Blk (put4 w6 r0 0 x) r0 (tmC x) 57 := B06'.out.set4 0 x
    have p7 : Only (fun k => k = r0) w6 (put4 w6 r0 0 x) := (Only.refl (fun k => k = r0) w6).put4 (fun _ => rfl) _ _
    unfold put4 at b7 p7
    simp only [Nat.zero_add] at b7 p7
    generalize (((w6.setCell ⟨r0, 0, none⟩ (.int .i64 x.at_)).setCell ⟨r0, 1, none⟩ (.int .i64 x.nth)).setCell ⟨r0, 2, none⟩ (.int .i64 x.key)).setCell ⟨r0, 3, none⟩ (.int .i64 x.slot) = w7 at b7 p7 ⊢
    obtain ⟨v0, v1, v2, v3⟩ : w7.cell? ⟨r0, 0, none⟩ = some (.int .i64 x.at_) ∧ w7.cell? ⟨r0, 1, none⟩ = some (.int .i64 x.nth) ∧ w7.cell? ⟨r0, 2, none⟩ = some (.int .i64 x.key) ∧ w7.cell? ⟨r0, 3, none⟩ = some (.int .i64 x.slot) := ⟨b7.cell 0 _ rfl, b7.cell 1 _ rfl, b7.cell 2 _ rfl, b7.cell 3 _ rfl⟩
    have T7 := T6.out.only p7 (fun k hk e => n0 (by rw [← e]; exact hk))
    have hr0 := HR.out.1
    refine bodyPost_ret (v := tmV x) (by simp [results, Try.results30, go_sem, v0, v1, v2, v3]) rfl ⟨rfl, _, T7, ?_⟩
    exact (HO5.out.trans P6.out (fun k _ e => by rw [e]; exact fgt)).trans p7 (fun k hk e => by omega)
end
end Go.Proofs.Ytbbihkddogbicaa
