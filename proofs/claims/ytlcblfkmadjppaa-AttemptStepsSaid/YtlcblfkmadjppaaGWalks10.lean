/- The reference: Next. -/
import Derived.Test.YtlcblfkmadjppaaWalks15
namespace Go.Proofs.Ytlcblfkmadjppaa
open Go.RowKit
set_option linter.unusedVariables false
set_option linter.unusedSimpArgs false

section
variable {w : World} {lo p : Nat} {r : Rq} {vi vb vo : Value}
set_option maxRecDepth 100000 in
set_option maxHeartbeats 3200000 in
theorem gnext_any (h : GQ w lo p r vi vb [] vo) (hok : Okq r) (ho : r.over = false) {m : Nat} (hm : IsMin (nextL r) m) :
    Calls Try.prog 20 #[.pointer (some ⟨p, 0, none⟩)] w fun e w' => e = .returned (.tuple #[.int .i64 ((nextL r).getD m 0 : Nat), .bool true]) ∧ Only (fun _ => False) w w' := by
  obtain ⟨i3, hi3, hz30, hz31, hz32⟩ := info_parts Try.info3
  have hl9 := hok.w.len9
  obtain ⟨ab, cb, rfl, hcb1, hcb2, _, _⟩ := ownsRow_slice (show w.ownsRow lo 3 1 vb (sincesOf r.runs).length (ints (sincesOf r.runs)) from Gw.beg h)
  have hcb3 : cb ≤ 9223372036854775807 := by unfold maxLen at hcb2; omega
  obtain ⟨kk, hkk⟩ : ∃ kk, kk = r.runs.length := ⟨_, rfl⟩
  rw [sincesOf_len, ← hkk] at h hcb1
  have hR : Gw w lo p r (idsOf r.runs) vi (sincesOf r.runs) (.slice ab kk cb) [] vo := h
  rw [← hkk] at hl9
  have d12 := hR.blk.cell 12 _ rfl
  have d13 := hR.blk.cell 13 _ rfl
  rw [ho] at d13
  have d6 := hR.blk.cell 6 _ rfl
  have d4 := hR.blk.cell 4 _ rfl
  have hpl := hR.blk.lt
  have ht1 := hok.t1
  have hp5 := hok.p5.2
  have hp4 := hok.p4.2
  have HOV := Lib.hid ho
  obtain ⟨L, hL⟩ : ∃ L, L = later r.since r.pl.total := ⟨_, rfl⟩
  have hlat : ∀ w : World, Calls Try.prog 38 #[.int .i64 r.since, .int .i64 r.pl.total] w fun e w' => e = .returned (.int .i64 L) ∧ w = w' := fun w => by rw [hL]; exact glater_any _ _ w ht1 hp5
  have HLAT := Lib.hid hlat
  have HL := Lib.hid (show nextT r 0 = [L] by rw [hL]; simp [nextT])
  have HOK := Lib.hid hok
  have HR := Lib.hid hR
  have HKK := Lib.hid hkk
  have HM := Lib.hid hm
  obtain ⟨M, hM⟩ : ∃ M, M = (nextL r).getD m 0 := ⟨_, rfl⟩
  rw [← hM]
  have HMM := Lib.hid hM
  clear h hok ho hm hR hkk hcb2 hlat hL ht1 hp5 hM
  generalize r.since = sn at d6 HLAT
  generalize r.pl.total = tt at d4 HLAT
  go_enter Try.func20, Try.ntmps20
  go_upto_region 3 with fail
  have k0 : (w.drew.cell? ⟨p, 6, none⟩ = some (.int .i64 sn)) ∧ (w.drew.cell? ⟨p, 4, none⟩ = some (.int .i64 tt)) := ⟨d6, d4⟩
  have k1 : ((w.alloc (Obj.cells #[Value.int .i64 L] 3)).cell? ⟨p, 6, none⟩ = some (.int .i64 sn)) ∧ ((w.alloc (Obj.cells #[Value.int .i64 L] 3)).cell? ⟨p, 4, none⟩ = some (.int .i64 tt)) := ⟨by rw [World.cell?_of_block (a := ⟨p, 6, none⟩) (((Only.refl (fun _ => False) w).alloc _).block p hpl (fun h => h))]; exact d6, by rw [World.cell?_of_block (a := ⟨p, 4, none⟩) (((Only.refl (fun _ => False) w).alloc _).block p hpl (fun h => h))]; exact d4⟩
  go_region_held3 (fun w' => (w'.cell? ⟨p, 6, none⟩ = some (.int .i64 sn)) ∧ (w'.cell? ⟨p, 4, none⟩ = some (.int .i64 tt)))
    (first | exact k0 | exact k1)
    (first
      | (go_at_call 38; (with_reducible refine (HLAT.out _).mono ?_); rintro e w' ⟨rfl, rfl⟩))
  clear k0 k1 d6 d4 d13
  have hA0 := Acc.one w L
  have HA0 := Lib.hid (show Acc w ((w.alloc (Obj.cells #[Value.int .i64 L] 3)).drew) (.slice (some ⟨w.heap.size, 0, none⟩) 1 1) (nextT r 0) from by
    have h := hA0.trans (w' := (w.alloc (Obj.cells #[Value.int .i64 L] 3)).drew) ((Only.refl _ _).drew)
    rw [HL.out]
    exact h)
  clear hA0
  obtain ⟨ga, hga⟩ : ∃ ga, ga = w.heap.size := ⟨_, rfl⟩
  rw [← hga] at HA0 ⊢
  generalize (w.alloc (Obj.cells #[Value.int .i64 L] 3)).drew = w1 at HA0 ⊢
  go_upto_region 4 with fail
  clear hga
  have d12' := (HR.out.only HA0.out.only (fun _ _ h => h)).blk.cell 12 _ rfl
  have hpl1 := (HR.out.only HA0.out.only (fun _ _ h => h)).blk.lt
  go_upto_region 5 with fail
  clear d12' hpl1 d12 hpl
  go_loopw [4, 6, 26] (fun v _ i wr => ∃ j : Nat, j ≤ kk ∧ i = .int .i64 j ∧ Acc w wr v (nextT r j)) (fun _ _ i _ => kk - (intOf i).toNat)
  case atStart => exact ⟨0, Nat.zero_le _, rfl, HA0.out⟩
  case round =>
    obtain ⟨j, hj, rfl, hA⟩ := hrel
    have HRR := Lib.hid (HR.out.only hA.only (fun _ _ h => h))
    have hlj : (nextT r j).length = j + 1 := nextT_len (by rw [← HKK.out]; exact hj)
    obtain ⟨ao, bc, rfl, hb1, hb2, _, _⟩ := ownsRow_slice hA.row
    rw [hlj] at hb1 hA ⊢
    have HA := Lib.hid hA
    have HLJ := Lib.hid hlj
    clear hA hlj
    by_cases hlt : j < kk
    · have hjr : j < r.runs.length := by rw [← HKK.out]; exact hlt
      have hbeg := HRR.out.beg
      rw [show kk = (sincesOf r.runs).length by rw [sincesOf_len]; exact HKK.out] at hbeg
      obtain ⟨g, rfl, hgl, e1⟩ := ints_at hbeg rfl (i := j) (by rw [sincesOf_len]; exact hjr)
      rw [sincesOf_get hjr] at e1
      have HNS := Lib.hid (nextT_succ hjr)
      obtain ⟨x, hx⟩ : ∃ x, x = runAt r.runs j := ⟨_, rfl⟩
      rw [← hx] at e1 HNS
      have hxs : x.since ≤ 4611686018427387904 := HOK.out.t3 x (by rw [hx, runAt_eq hjr]; exact List.getElem_mem hjr)
      have d3 := HRR.out.blk.cell 3 _ rfl
      have hpl := HRR.out.blk.lt
      clear hx hjr hbeg
      obtain ⟨L2, hL2⟩ : ∃ L2, L2 = later x.since r.pl.per := ⟨_, rfl⟩
      have hlat2 : ∀ w : World, Calls Try.prog 38 #[.int .i64 x.since, .int .i64 r.pl.per] w fun e w' => e = .returned (.int .i64 L2) ∧ w = w' := fun w => by rw [hL2]; exact glater_any _ _ w hxs hp4
      rw [← hL2] at HNS
      have HLAT2 := Lib.hid hlat2
      clear hlat2 hL2
      obtain ⟨per, hper⟩ : ∃ per, per = r.pl.per := ⟨_, rfl⟩
      rw [← hper] at d3 HLAT2
      have HPER := Lib.hid hper
      clear hper
      have hnp : (Value.slice ao (j + 1) bc).ownBlock ≠ some p := ownsRow_ne HA.out.row HRR.out.blk (by decide)
      have HNP := Lib.hid hnp
      have HPL := Lib.hid hpl
      clear hnp
      go_upto_region 7 with fail
      go_upto_region 8 with (first
        | (go_at_call 38; (with_reducible refine (HLAT2.out _).mono ?_); rintro e w' ⟨rfl, rfl⟩)
        | (at_builtin; refine wpList_append_row rfl (.tmp 30) (.tmp 37) 39 rfl w.heap.size 3 i3 (.int .i64 0) 1 8 Try.underlying39 hi3 hz30 hz31 hz32 rfl (by decide) (.slice ao (j + 1) bc) (j + 1) (ints (nints (nextT r j))) rfl ((HA.out.rowN HLJ.out).alloc _) (some ⟨wr.heap.size, 0, none⟩) 1 1 [.int .i64 L2] rfl rfl (fun _ => ⟨_, rfl, new_one _ _ _⟩) (fun e => by cases e) (one_int _ _) (by unfold maxLen; omega) (by omega) (by have := HA.out.only.size; simp only [World.size_alloc]; omega) ?_; intro v9 w9 hown9 hon9 _ _; obtain ⟨a9, k9, rfl, _, _, _, _⟩ := ownsRow_slice hown9; have HO9 := Lib.hid hown9; have HN9 := Lib.hid hon9; clear hown9 hon9))
      clear d3 hpl e1 hgl
      go_wp2_with fail
      go_roundw
      case rel =>
        refine ⟨j + 1, by omega, by go_num, ?_⟩
        rw [HNS.out]
        have h := (HA.out.trans ((Only.refl (fun _ => False) wr).alloc _)).app (w' := w9) (v' := .slice a9 (j + 1 + 1) k9) (L := L2) (by rw [HLJ.out]; exact HO9.out) HN9.out
        exact h
      case measure => simp [intOf]; omega
    · have hjk : j = kk := by omega
      have hna := nextT_all (r := r) (j := j) (by rw [← HKK.out]; omega)
      have HNA := Lib.hid hna
      have HJ := Lib.hid hjk
      have hHG := fun (w' : World) (hd : Drawn wr w') => ghedging_any (show GQ w' lo p r vi (.slice ab kk cb) [] vo from HRR.out.only (hd.only (fun _ => False)) (fun _ _ h => h)) HOK.out.w
      simp only [HOV.out, Bool.not_false, Bool.true_and] at hHG
      obtain ⟨hg, hhg⟩ : ∃ b, b = hedging r := ⟨_, rfl⟩
      have HHG := Lib.hid hHG
      rw [← hhg] at HNA HHG
      have hnl : (nextL r).length ≤ 100 := by have := nextL_len r; have := HKK.out; omega
      have hle : ∀ x ∈ nextL r, x ≤ 4611686018427387904 := nextL_le r
      have HNL := Lib.hid hnl
      have HLE := Lib.hid hle
      have hb9 : j ≤ 9 := by omega
      clear hna hjk hhg hnl hle hHG
      go_upto_region 9 with fail
      cases hg with
      | false =>
        go_upto_region 11 with (go_at_call 39; (with_reducible refine (HHG.out _ (Drawn.refl _)).mono ?_); rintro e w2 ⟨rfl, hd⟩; have HD := Lib.hid hd; clear hd)
        have hA2 := HA.out.trans (HD.out.only (fun _ => False))
        have hn := HNA.out
        simp only [Bool.false_eq_true, if_false, List.append_nil] at hn
        rw [← hn] at hA2
        have HA2 := Lib.hid hA2
        clear hA2 hn
        go_wp2_with (go_at_call 43; (with_reducible refine (rfirst_any HA2.out.irow HM.out HLE.out HNL.out).mono ?_); rintro e w3 ⟨rfl, rfl⟩; rw [← HMM.out])
        go_ret2
        exact ⟨rfl, HA2.out.only⟩
      | true =>
        go_upto_region 10 with (go_at_call 39; (with_reducible refine (HHG.out _ (Drawn.refl _)).mono ?_); rintro e w4 ⟨rfl, hd⟩; have HD := Lib.hid hd; clear hd)
        have hA4 := HA.out.trans (HD.out.only (fun _ => False))
        have hR4 := HRR.out.only (HD.out.only (fun _ => False)) (fun _ _ h => h)
        have b1 := hR4.blk.cell 7 _ rfl
        have d3 := hR4.blk.cell 2 _ rfl
        have hpl := hR4.blk.lt
        have hnp : (Value.slice ao (j + 1) bc).ownBlock ≠ some p := ownsRow_ne hA4.row hR4.blk (by decide)
        have HNP := Lib.hid hnp
        have HPL := Lib.hid hpl
        have hlast := HOK.out.t2
        have hp3 := HOK.out.p3.2
        obtain ⟨L2, hL2⟩ : ∃ L2, L2 = later r.last r.pl.after := ⟨_, rfl⟩
        have hlat2 : ∀ w : World, Calls Try.prog 38 #[.int .i64 r.last, .int .i64 r.pl.after] w fun e w' => e = .returned (.int .i64 L2) ∧ w = w' := fun w => by rw [hL2]; exact glater_any _ _ w hlast hp3
        have hn := HNA.out
        simp only [if_true] at hn
        rw [← hL2] at hn
        have HN2 := Lib.hid hn
        have HLAT2 := Lib.hid hlat2
        have HA4 := Lib.hid hA4
        clear hn hlat2 hL2 hlast hp3 hA4 hR4 hnp
        obtain ⟨per, hper⟩ : ∃ per, per = r.pl.after := ⟨_, rfl⟩
        obtain ⟨la, hla⟩ : ∃ la, la = r.last := ⟨_, rfl⟩
        rw [← hper] at d3 HLAT2
        rw [← hla] at b1 HLAT2
        clear hper hla
        have k0 : (w4.drew.cell? ⟨p, 2, none⟩ = some (.int .i64 per)) ∧ (w4.drew.cell? ⟨p, 7, none⟩ = some (.int .i64 la)) := ⟨d3, b1⟩
        have k1 : ((w4.alloc (Obj.cells #[Value.int .i64 L2] 3)).cell? ⟨p, 2, none⟩ = some (.int .i64 per)) ∧ ((w4.alloc (Obj.cells #[Value.int .i64 L2] 3)).cell? ⟨p, 7, none⟩ = some (.int .i64 la)) := ⟨by rw [World.cell?_of_block (a := ⟨p, 2, none⟩) (((Only.refl (fun _ => False) w4).alloc _).block p hpl (fun h => h))]; exact d3, by rw [World.cell?_of_block (a := ⟨p, 7, none⟩) (((Only.refl (fun _ => False) w4).alloc _).block p hpl (fun h => h))]; exact b1⟩
        go_region_held3 (fun w' => (w'.cell? ⟨p, 2, none⟩ = some (.int .i64 per)) ∧ (w'.cell? ⟨p, 7, none⟩ = some (.int .i64 la)))
          (first | exact k0 | exact k1 | exact k2)
          (first
            | (go_at_call 38; (with_reducible refine (HLAT2.out _).mono ?_); rintro e w' ⟨rfl, rfl⟩)
            | (refine step_append_row rfl (.tmp 42) (.tmp 52) 39 rfl w.heap.size 3 i3 (.int .i64 0) 1 8 Try.underlying39 hi3 hz30 hz31 hz32 rfl (by decide) (.slice ao (j + 1) bc) (j + 1) (ints (nints (nextT r j))) rfl ((HA4.out.rowN HLJ.out).alloc _) (some ⟨w4.heap.size, 0, none⟩) 1 1 [.int .i64 L2] rfl rfl (fun _ => ⟨_, rfl, new_one _ _ _⟩) (fun e => by cases e) (one_int _ _) (by unfold maxLen; omega) (by omega) (by have := HA4.out.only.size; first | (simp only [World.size_drew, World.size_alloc]; omega) | (simp only [World.size_alloc]; omega) | (simp; omega)) ?_; intro v9 w9 hown9 hon9 _ _; obtain ⟨a9, k9, rfl, _, _, _, _⟩ := ownsRow_slice hown9; have HO9 := Lib.hid hown9; have hon9' : Only (fun i => (Value.slice ao (j + 1) bc).ownBlock = some i) (w4.alloc (Obj.cells #[Value.int .i64 L2] 3)) w9 := ⟨hon9.os, hon9.tape, hon9.output, hon9.size, hon9.block⟩; have HN9 := Lib.hid hon9'; have k2 : (w9.cell? ⟨p, 2, none⟩ = some (.int .i64 per)) ∧ (w9.cell? ⟨p, 7, none⟩ = some (.int .i64 la)) := ⟨(World.cell?_of_block (a := ⟨p, 2, none⟩) (hon9'.block p (by simp only [World.size_alloc]; have := HPL.out; omega) (fun e => HNP.out e))).trans k1.1, (World.cell?_of_block (a := ⟨p, 7, none⟩) (hon9'.block p (by simp only [World.size_alloc]; have := HPL.out; omega) (fun e => HNP.out e))).trans k1.2⟩; clear hown9 hon9 hon9'))
        clear k0 k1 k2 b1 d3 hpl
        have hA2 := (HA4.out.trans ((Only.refl (fun _ => False) w4).alloc _)).app (w' := w9) (v' := .slice a9 (j + 1 + 1) k9) (L := L2) (by rw [HLJ.out]; exact HO9.out) HN9.out
        rw [← HN2.out] at hA2
        have HA2 := Lib.hid hA2
        clear hA2
        go_wp2_with (go_at_call 43; (with_reducible refine (rfirst_any HA2.out.irow HM.out HLE.out HNL.out).mono ?_); rintro e w3 ⟨rfl, rfl⟩; rw [← HMM.out])
        go_ret2
        exact ⟨rfl, HA2.out.only⟩
end
end Go.Proofs.Ytlcblfkmadjppaa
