/- Next. -/
import Derived.Test.YtlcblfkmadjppaaSame
namespace Go.Proofs.Ytlcblfkmadjppaa
open Go.RowKit
set_option linter.unusedVariables false
set_option linter.unusedSimpArgs false

/-- When time does something: all that may be. -/
def nextL (r : Rq) : List Nat := later r.since r.pl.total :: (r.runs.map fun x => later x.since r.pl.per) ++ (if hedging r then [later r.last r.pl.after] else [])
def nextT (r : Rq) (j : Nat) : List Nat := later r.since r.pl.total :: ((r.runs.take j).map fun x => later x.since r.pl.per)
theorem nextT_len {r : Rq} {j : Nat} (h : j ≤ r.runs.length) : (nextT r j).length = j + 1 := by simp [nextT, Nat.min_eq_left h]
theorem nextT_succ {r : Rq} {j : Nat} (h : j < r.runs.length) : nextT r (j + 1) = nextT r j ++ [later (runAt r.runs j).since r.pl.per] := by
  unfold nextT
  rw [List.take_succ_eq_append_getElem h, List.map_append, runAt_eq h]
  rfl
theorem nextT_all {r : Rq} {j : Nat} (h : r.runs.length ≤ j) : nextL r = nextT r j ++ (if hedging r then [later r.last r.pl.after] else []) := by
  unfold nextL nextT
  rw [List.take_of_length_le h]
theorem nextL_le (r : Rq) : ∀ x ∈ nextL r, x ≤ 4611686018427387904 := by
  intro x hx
  unfold nextL at hx
  rcases List.mem_append.1 hx with hx | hx
  · rcases List.mem_cons.1 hx with rfl | hx
    · exact later_le _ _
    · obtain ⟨y, _, rfl⟩ := List.mem_map.1 hx
      exact later_le _ _
  · split at hx
    · rw [List.mem_singleton.1 hx]; exact later_le _ _
    · cases hx
theorem nextL_len (r : Rq) : (nextL r).length ≤ r.runs.length + 2 := by
  unfold nextL
  split <;> simp
/-- A row of moments of the call's own. -/
structure Acc (w wr : World) (v : Value) (l : List Nat) : Prop where
  row : wr.ownsRow w.heap.size 3 1 v l.length (ints (nints l))
  only : Only (fun _ => False) w wr
theorem Acc.trans {w wr w' : World} {v : Value} {l : List Nat} (h : Acc w wr v l) (ho : Only (fun _ => False) wr w') : Acc w w' v l := ⟨owns_only h.row ho (fun _ _ h => h), h.only.trans ho (fun _ _ h => h)⟩
theorem Acc.one (w : World) (L : Nat) : Acc w (w.alloc (.cells #[.int .i64 L] 3)) (.slice (some ⟨w.heap.size, 0, none⟩) 1 1) [L] :=
  ⟨World.ownsRow_lit w #[.int .i64 L] 1 (Nat.le_refl _) (by unfold maxLen; omega) rfl, (Only.refl _ _).alloc _⟩
theorem Acc.irow {w wr : World} {v : Value} {l : List Nat} (h : Acc w wr v l) : IRow wr v (nints l) := iRow_of (by rw [nints_len]; exact h.row)
theorem Acc.rowN {w wr : World} {v : Value} {l : List Nat} {n : Nat} (h : Acc w wr v l) (hn : l.length = n) : wr.ownsRow w.heap.size 3 1 v n (ints (nints l)) := by rw [← hn]; exact h.row
theorem Acc.app {w wa w' : World} {v v' : Value} {l : List Nat} {L : Nat} (h : Acc w wa v l) (hr : w'.ownsRow w.heap.size 3 1 v' (l.length + 1) (ints (nints l) ++ [.int .i64 L])) (ho : Only (fun i => v.ownBlock = some i) wa w') : Acc w w' v' (l ++ [L]) := by
  refine ⟨?_, h.only.trans ho (fun i hi e => ?_)⟩
  · rw [List.length_append, List.length_singleton, nints_snoc, ints_append]
    exact hr
  · have := (ownsRow_lt h.row i e).1
    omega

section
variable {F : Nat → Prop} {w : World} {lo p : Nat} {r : Rq}
set_option maxRecDepth 100000 in
set_option maxHeartbeats 3200000 in
theorem next_any (h : RQ F w lo p r []) (hok : Okq r) (ho : r.over = false) {m : Nat} (hm : IsMin (nextL r) m) :
    Calls Try.prog 19 #[.pointer (some ⟨p, 0, none⟩)] w fun e w' => e = .returned (.tuple #[.int .i64 ((nextL r).getD m 0 : Nat), .bool true]) ∧ Only (fun _ => False) w w' := by
  obtain ⟨i3, hi3, hz30, hz31, hz32⟩ := info_parts Try.info3
  have hl9 := hok.w.len9
  obtain ⟨vr, vo, hR, rfl⟩ := id h
  obtain ⟨ar, cr, rfl, hcr1, hcr2, _, _⟩ := ownsRow_slice hR.runs
  have hcr3 : cr ≤ 9223372036854775807 := by unfold maxLen at hcr2; omega
  obtain ⟨kk, hkk⟩ : ∃ kk, kk = r.runs.length := ⟨_, rfl⟩
  rw [← hkk] at hR hcr1 hl9
  have d11 := hR.blk.cell 11 _ rfl
  have d6 := hR.blk.cell 6 _ rfl
  have d4 := hR.blk.cell 4 _ rfl
  have d3 := hR.blk.cell 3 _ rfl
  have hpl := hR.blk.lt
  have ht1 := hok.t1
  have hp5 := hok.p5.2
  have hp4 := hok.p4.2
  have HOV := Lib.hid (show ∀ w' : World, Drawn w w' → Calls Try.prog 12 #[.pointer (some ⟨p, 0, none⟩)] w' fun e w'' => e = .returned (.bool false) ∧ w' = w'' from fun w' hd => by rw [← ho]; exact over_any (h.only (hd.only (fun _ => False)) (fun _ _ h => h)))
  obtain ⟨L, hL⟩ : ∃ L, L = later r.since r.pl.total := ⟨_, rfl⟩
  have hlat : ∀ w : World, Calls Try.prog 40 #[.int .i64 r.since, .int .i64 r.pl.total] w fun e w' => e = .returned (.int .i64 L) ∧ w = w' := fun w => by rw [hL]; exact later_any _ _ w ht1 hp5
  have HLAT := Lib.hid hlat
  have HL := Lib.hid (show nextT r 0 = [L] by rw [hL]; simp [nextT])
  have HOK := Lib.hid hok
  have HR := Lib.hid hR
  have H := Lib.hid h
  have HKK := Lib.hid hkk
  have HM := Lib.hid hm
  obtain ⟨M, hM⟩ : ∃ M, M = (nextL r).getD m 0 := ⟨_, rfl⟩
  rw [← hM]
  have HMM := Lib.hid hM
  have z64 := zero64
  clear h hok ho hm hR hkk hcr2 hlat hL ht1 hp5 hM
  generalize r.since = sn at d6 HLAT
  generalize r.pl.total = tt at d4 HLAT
  go_enter Try.func19, Try.ntmps19
  go_upto_region 3 with (go_at_call 12; (with_reducible refine (HOV.out _ (Drawn.refl _)).mono ?_); rintro e w' ⟨rfl, rfl⟩)
  have k0 : (w.drew.cell? ⟨p, 6, none⟩ = some (.int .i64 sn)) ∧ (w.drew.cell? ⟨p, 4, none⟩ = some (.int .i64 tt)) := ⟨d6, d4⟩
  have k1 : ((w.alloc (Obj.cells #[Value.int .i64 L] 3)).cell? ⟨p, 6, none⟩ = some (.int .i64 sn)) ∧ ((w.alloc (Obj.cells #[Value.int .i64 L] 3)).cell? ⟨p, 4, none⟩ = some (.int .i64 tt)) := ⟨by rw [World.cell?_of_block (a := ⟨p, 6, none⟩) (((Only.refl (fun _ => False) w).alloc _).block p hpl (fun h => h))]; exact d6, by rw [World.cell?_of_block (a := ⟨p, 4, none⟩) (((Only.refl (fun _ => False) w).alloc _).block p hpl (fun h => h))]; exact d4⟩
  go_region_held3 (fun w' => (w'.cell? ⟨p, 6, none⟩ = some (.int .i64 sn)) ∧ (w'.cell? ⟨p, 4, none⟩ = some (.int .i64 tt)))
    (first | exact k0 | exact k1)
    (first
      | (go_at_call 40; (with_reducible refine (HLAT.out _).mono ?_); rintro e w' ⟨rfl, rfl⟩))
  clear k0 k1 d6 d4
  have hA0 := Acc.one w L
  have HA0 := Lib.hid (show Acc w ((w.alloc (Obj.cells #[Value.int .i64 L] 3)).drew) (.slice (some ⟨w.heap.size, 0, none⟩) 1 1) (nextT r 0) from by
    have h := hA0.trans (w' := (w.alloc (Obj.cells #[Value.int .i64 L] 3)).drew) ((Only.refl _ _).drew)
    rw [HL.out]
    exact h)
  clear hA0
  obtain ⟨ga, hga⟩ : ∃ ga, ga = w.heap.size := ⟨_, rfl⟩
  rw [← hga] at HA0 ⊢
  generalize (w.alloc (Obj.cells #[Value.int .i64 L] 3)).drew = w1 at HA0 ⊢
  go_upto_region 4 with fail
  clear hga
  have d11' := (HR.out.only HA0.out.only (fun _ _ h => h)).blk.cell 11 _ rfl
  have hpl1 := (HR.out.only HA0.out.only (fun _ _ h => h)).blk.lt
  go_upto_region 5 with fail
  clear d11' hpl1 d11 hpl d3
  go_loopw [4, 6, 25] (fun v _ i wr => ∃ j : Nat, j ≤ kk ∧ i = .int .i64 j ∧ Acc w wr v (nextT r j)) (fun _ _ i _ => kk - (intOf i).toNat)
  case atStart => exact ⟨0, Nat.zero_le _, rfl, HA0.out⟩
  case round =>
    obtain ⟨j, hj, rfl, hA⟩ := hrel
    have HRR := Lib.hid (HR.out.only hA.only (fun _ _ h => h))
    have hlj : (nextT r j).length = j + 1 := nextT_len (by rw [← HKK.out]; exact hj)
    obtain ⟨ao, bc, rfl, hb1, hb2, _, _⟩ := ownsRow_slice hA.row
    rw [hlj] at hb1 hA ⊢
    have HA := Lib.hid hA
    have HLJ := Lib.hid hlj
    clear hA hlj
    by_cases hlt : j < kk
    · have hjr : j < r.runs.length := by rw [← HKK.out]; exact hlt
      obtain ⟨g, rfl, hgl, e0, e1⟩ := HRR.out.runsAt rfl hjr
      have HNS := Lib.hid (nextT_succ hjr)
      obtain ⟨x, hx⟩ : ∃ x, x = runAt r.runs j := ⟨_, rfl⟩
      rw [← hx] at e0 e1 HNS
      have hxs : x.since ≤ 4611686018427387904 := HOK.out.t3 x (by rw [hx, runAt_eq hjr]; exact List.getElem_mem hjr)
      have hxi : x.id < 1000000 := by
        have := HOK.out.lt x (by rw [hx, runAt_eq hjr]; exact List.getElem_mem hjr)
        have := HOK.out.w.made9
        omega
      have d3 := HRR.out.blk.cell 3 _ rfl
      have hpl := HRR.out.blk.lt
      clear hx hjr
      obtain ⟨L2, hL2⟩ : ∃ L2, L2 = later x.since r.pl.per := ⟨_, rfl⟩
      have hlat2 : ∀ w : World, Calls Try.prog 40 #[.int .i64 x.since, .int .i64 r.pl.per] w fun e w' => e = .returned (.int .i64 L2) ∧ w = w' := fun w => by rw [hL2]; exact later_any _ _ w hxs hp4
      rw [← hL2] at HNS
      have HLAT2 := Lib.hid hlat2
      clear hlat2 hL2
      obtain ⟨per, hper⟩ : ∃ per, per = r.pl.per := ⟨_, rfl⟩
      rw [← hper] at d3 HLAT2
      have HPER := Lib.hid hper
      clear hper
      have ho4 : Only (fun _ => False) wr (wr.alloc (Obj.cells #[.int .i64 x.id, .int .i64 x.since] 64)) := (Only.refl _ _).alloc _
      have hb4 : Blk (wr.alloc (Obj.cells #[.int .i64 x.id, .int .i64 x.since] 64)) wr.heap.size [.int .i64 x.id, .int .i64 x.since] 64 := Blk.new wr [.int .i64 x.id, .int .i64 x.since] 64
      go_upto_region 7 with fail
      obtain ⟨q, hq⟩ : ∃ q, q = wr.heap.size := ⟨_, rfl⟩
      rw [← hq] at hb4 ⊢
      have HA4 := Lib.hid (HA.out.trans ho4)
      have hR4 := HRR.out.only ho4 (fun _ _ h => h)
      clear hq
      generalize wr.alloc (Obj.cells #[.int .i64 x.id, .int .i64 x.since] 64) = w4 at ho4 hb4 HA4 hR4 ⊢
      have b1 := hb4.cell 1 _ rfl
      have d3 : w4.cell? ⟨p, 3, none⟩ = some (.int .i64 per) := by rw [HPER.out]; exact hR4.blk.cell 3 _ rfl
      have hql := hb4.lt
      have hpl := hR4.blk.lt
      have hnp : (Value.slice ao (j + 1) bc).ownBlock ≠ some p := ownsRow_ne HA4.out.row hR4.blk (by decide)
      have hnq : (Value.slice ao (j + 1) bc).ownBlock ≠ some q := ownsRow_ne HA4.out.row hb4 (by decide)
      have HNP := Lib.hid hnp
      have HNQ := Lib.hid hnq
      have HPL := Lib.hid (And.intro hpl hql)
      clear e0 e1 hR4 hb4 ho4 hnp hnq
      have k0 : (w4.drew.cell? ⟨p, 3, none⟩ = some (.int .i64 per)) ∧ (w4.drew.cell? ⟨q, 1, none⟩ = some (.int .i64 x.since)) := ⟨d3, b1⟩
      have k1 : ((w4.alloc (Obj.cells #[Value.int .i64 L2] 3)).cell? ⟨p, 3, none⟩ = some (.int .i64 per)) ∧ ((w4.alloc (Obj.cells #[Value.int .i64 L2] 3)).cell? ⟨q, 1, none⟩ = some (.int .i64 x.since)) := ⟨by rw [World.cell?_of_block (a := ⟨p, 3, none⟩) (((Only.refl (fun _ => False) w4).alloc _).block p hpl (fun h => h))]; exact d3, by rw [World.cell?_of_block (a := ⟨q, 1, none⟩) (((Only.refl (fun _ => False) w4).alloc _).block q hql (fun h => h))]; exact b1⟩
      go_region_held3 (fun w' => (w'.cell? ⟨p, 3, none⟩ = some (.int .i64 per)) ∧ (w'.cell? ⟨q, 1, none⟩ = some (.int .i64 x.since)))
        (first | exact k0 | exact k1 | exact k2)
        (first
          | (go_at_call 40; (with_reducible refine (HLAT2.out _).mono ?_); rintro e w' ⟨rfl, rfl⟩)
          | (refine step_append_row rfl (.tmp 29) (.tmp 38) 39 rfl w.heap.size 3 i3 (.int .i64 0) 1 8 Try.underlying39 hi3 hz30 hz31 hz32 rfl (by decide) (.slice ao (j + 1) bc) (j + 1) (ints (nints (nextT r j))) rfl ((HA4.out.rowN HLJ.out).alloc _) (some ⟨w4.heap.size, 0, none⟩) 1 1 [.int .i64 L2] rfl rfl (fun _ => ⟨_, rfl, new_one _ _ _⟩) (fun e => by cases e) (one_int _ _) (by unfold maxLen; omega) (by omega) (by have := HA4.out.only.size; first | (simp only [World.size_drew, World.size_alloc]; omega) | (simp only [World.size_alloc]; omega) | (simp; omega)) ?_; intro v9 w9 hown9 hon9 _ _; obtain ⟨a9, k9, rfl, _, _, _, _⟩ := ownsRow_slice hown9; have HO9 := Lib.hid hown9; have hon9' : Only (fun i => (Value.slice ao (j + 1) bc).ownBlock = some i) (w4.alloc (Obj.cells #[Value.int .i64 L2] 3)) w9 := ⟨hon9.os, hon9.tape, hon9.output, hon9.size, hon9.block⟩; have HN9 := Lib.hid hon9'; have k2 : (w9.cell? ⟨p, 3, none⟩ = some (.int .i64 per)) ∧ (w9.cell? ⟨q, 1, none⟩ = some (.int .i64 x.since)) := ⟨(World.cell?_of_block (a := ⟨p, 3, none⟩) (hon9'.block p (by simp only [World.size_alloc]; have := HPL.out; omega) (fun e => HNP.out e))).trans k1.1, (World.cell?_of_block (a := ⟨q, 1, none⟩) (hon9'.block q (by simp only [World.size_alloc]; have := HPL.out; omega) (fun e => HNQ.out e))).trans k1.2⟩; clear hown9 hon9 hon9'))
      clear k0 k1 k2 b1 d3 hql hpl
      go_wp2_with fail
      go_roundw
      case rel =>
        refine ⟨j + 1, by omega, by go_num, ?_⟩
        rw [HNS.out]
        have h := (HA4.out.trans ((Only.refl (fun _ => False) w4).alloc _)).app (w' := w9) (v' := .slice a9 (j + 1 + 1) k9) (L := L2) (by rw [HLJ.out]; exact HO9.out) HN9.out
        exact h
      case measure => simp [intOf]; omega
    · have hjk : j = kk := by omega
      have hna := nextT_all (r := r) (j := j) (by rw [← HKK.out]; omega)
      have HNA := Lib.hid hna
      have HJ := Lib.hid hjk
      have HHG := Lib.hid (fun (w' : World) (hd : Drawn wr w') => hedging_any (rq_of (HRR.out.only (hd.only (fun _ => False)) (fun _ _ h => h))) HOK.out.w)
      obtain ⟨hg, hhg⟩ : ∃ b, b = hedging r := ⟨_, rfl⟩
      rw [← hhg] at HNA HHG
      have hnl : (nextL r).length ≤ 100 := by have := nextL_len r; have := HKK.out; omega
      have hle : ∀ x ∈ nextL r, x ≤ 4611686018427387904 := nextL_le r
      have HNL := Lib.hid hnl
      have HLE := Lib.hid hle
      have hb9 : j ≤ 9 := by omega
      clear hna hjk hhg hnl hle
      go_upto_region 9 with fail
      cases hg with
      | false =>
        go_upto_region 11 with (go_at_call 41; (with_reducible refine (HHG.out _ (Drawn.refl _)).mono ?_); rintro e w2 ⟨rfl, hd⟩; have HD := Lib.hid hd; clear hd)
        have hA2 := HA.out.trans (HD.out.only (fun _ => False))
        have hn := HNA.out
        simp only [Bool.false_eq_true, if_false, List.append_nil] at hn
        rw [← hn] at hA2
        have HA2 := Lib.hid hA2
        clear hA2 hn
        go_wp2_with (go_at_call 42; (with_reducible refine (first_any HA2.out.irow HM.out HLE.out HNL.out).mono ?_); rintro e w3 ⟨rfl, rfl⟩; rw [← HMM.out])
        go_ret2
        exact ⟨rfl, HA2.out.only⟩
      | true =>
        go_upto_region 10 with (go_at_call 41; (with_reducible refine (HHG.out _ (Drawn.refl _)).mono ?_); rintro e w4 ⟨rfl, hd⟩; have HD := Lib.hid hd; clear hd)
        have hA4 := HA.out.trans (HD.out.only (fun _ => False))
        have hR4 := HRR.out.only (HD.out.only (fun _ => False)) (fun _ _ h => h)
        have b1 := hR4.blk.cell 7 _ rfl
        have d3 := hR4.blk.cell 2 _ rfl
        have hpl := hR4.blk.lt
        have hnp : (Value.slice ao (j + 1) bc).ownBlock ≠ some p := ownsRow_ne hA4.row hR4.blk (by decide)
        have HNP := Lib.hid hnp
        have HPL := Lib.hid hpl
        have hlast := HOK.out.t2
        have hp3 := HOK.out.p3.2
        obtain ⟨L2, hL2⟩ : ∃ L2, L2 = later r.last r.pl.after := ⟨_, rfl⟩
        have hlat2 : ∀ w : World, Calls Try.prog 40 #[.int .i64 r.last, .int .i64 r.pl.after] w fun e w' => e = .returned (.int .i64 L2) ∧ w = w' := fun w => by rw [hL2]; exact later_any _ _ w hlast hp3
        have hn := HNA.out
        simp only [if_true] at hn
        rw [← hL2] at hn
        have HN2 := Lib.hid hn
        have HLAT2 := Lib.hid hlat2
        have HA4 := Lib.hid hA4
        clear hn hlat2 hL2 hlast hp3 hA4 hR4 hnp
        obtain ⟨per, hper⟩ : ∃ per, per = r.pl.after := ⟨_, rfl⟩
        obtain ⟨la, hla⟩ : ∃ la, la = r.last := ⟨_, rfl⟩
        rw [← hper] at d3 HLAT2
        rw [← hla] at b1 HLAT2
        clear hper hla
        have k0 : (w4.drew.cell? ⟨p, 2, none⟩ = some (.int .i64 per)) ∧ (w4.drew.cell? ⟨p, 7, none⟩ = some (.int .i64 la)) := ⟨d3, b1⟩
        have k1 : ((w4.alloc (Obj.cells #[Value.int .i64 L2] 3)).cell? ⟨p, 2, none⟩ = some (.int .i64 per)) ∧ ((w4.alloc (Obj.cells #[Value.int .i64 L2] 3)).cell? ⟨p, 7, none⟩ = some (.int .i64 la)) := ⟨by rw [World.cell?_of_block (a := ⟨p, 2, none⟩) (((Only.refl (fun _ => False) w4).alloc _).block p hpl (fun h => h))]; exact d3, by rw [World.cell?_of_block (a := ⟨p, 7, none⟩) (((Only.refl (fun _ => False) w4).alloc _).block p hpl (fun h => h))]; exact b1⟩
        go_region_held3 (fun w' => (w'.cell? ⟨p, 2, none⟩ = some (.int .i64 per)) ∧ (w'.cell? ⟨p, 7, none⟩ = some (.int .i64 la)))
          (first | exact k0 | exact k1 | exact k2)
          (first
            | (go_at_call 40; (with_reducible refine (HLAT2.out _).mono ?_); rintro e w' ⟨rfl, rfl⟩)
            | (refine step_append_row rfl (.tmp 43) (.tmp 54) 39 rfl w.heap.size 3 i3 (.int .i64 0) 1 8 Try.underlying39 hi3 hz30 hz31 hz32 rfl (by decide) (.slice ao (j + 1) bc) (j + 1) (ints (nints (nextT r j))) rfl ((HA4.out.rowN HLJ.out).alloc _) (some ⟨w4.heap.size, 0, none⟩) 1 1 [.int .i64 L2] rfl rfl (fun _ => ⟨_, rfl, new_one _ _ _⟩) (fun e => by cases e) (one_int _ _) (by unfold maxLen; omega) (by omega) (by have := HA4.out.only.size; first | (simp only [World.size_drew, World.size_alloc]; omega) | (simp only [World.size_alloc]; omega) | (simp; omega)) ?_; intro v9 w9 hown9 hon9 _ _; obtain ⟨a9, k9, rfl, _, _, _, _⟩ := ownsRow_slice hown9; have HO9 := Lib.hid hown9; have hon9' : Only (fun i => (Value.slice ao (j + 1) bc).ownBlock = some i) (w4.alloc (Obj.cells #[Value.int .i64 L2] 3)) w9 := ⟨hon9.os, hon9.tape, hon9.output, hon9.size, hon9.block⟩; have HN9 := Lib.hid hon9'; have k2 : (w9.cell? ⟨p, 2, none⟩ = some (.int .i64 per)) ∧ (w9.cell? ⟨p, 7, none⟩ = some (.int .i64 la)) := ⟨(World.cell?_of_block (a := ⟨p, 2, none⟩) (hon9'.block p (by simp only [World.size_alloc]; have := HPL.out; omega) (fun e => HNP.out e))).trans k1.1, (World.cell?_of_block (a := ⟨p, 7, none⟩) (hon9'.block p (by simp only [World.size_alloc]; have := HPL.out; omega) (fun e => HNP.out e))).trans k1.2⟩; clear hown9 hon9 hon9'))
        clear k0 k1 k2 b1 d3 hpl
        have hA2 := (HA4.out.trans ((Only.refl (fun _ => False) w4).alloc _)).app (w' := w9) (v' := .slice a9 (j + 1 + 1) k9) (L := L2) (by rw [HLJ.out]; exact HO9.out) HN9.out
        rw [← HN2.out] at hA2
        have HA2 := Lib.hid hA2
        clear hA2
        go_wp2_with (go_at_call 42; (with_reducible refine (first_any HA2.out.irow HM.out HLE.out HNL.out).mono ?_); rintro e w3 ⟨rfl, rfl⟩; rw [← HMM.out])
        go_ret2
        exact ⟨rfl, HA2.out.only⟩
end
end Go.Proofs.Ytlcblfkmadjppaa
