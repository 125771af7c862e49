/- try. -/
import Derived.Test.YtlcblfkmadjppaaWalks5
namespace Go.Proofs.Ytlcblfkmadjppaa
open Go.RowKit
set_option linter.unusedVariables false
set_option linter.unusedSimpArgs false

section
variable {F : Nat → Prop} {w : World} {lo p : Nat} {r : Rq} {o : List Ac}

theorem acCells_one (x : Ac) : acCells [x] = [.int .i64 x.kind, .int .i64 x.id, .int .i64 x.n] := by simp [acCells, acC]
/-- say(one act), its row just laid. -/
theorem say_one (h : RQ F w lo p r o) (a b c : Int) (hb : o.length ≤ 60) :
    Calls Try.prog 44 #[.pointer (some ⟨p, 0, none⟩), .slice (some ⟨w.heap.size, 0, none⟩) 1 1] (w.alloc (.cells #[.int .i64 a, .int .i64 b, .int .i64 c] 37)) fun e w' => e = .returned (.tuple #[]) ∧ RP F w w' lo p r (o ++ [⟨a, b, c⟩]) := by
  have ho : Only (fun _ => False) w (w.alloc (.cells #[.int .i64 a, .int .i64 b, .int .i64 c] 37)) := (Only.refl _ _).alloc _
  refine (say_any (m := 1) (acts := [⟨a, b, c⟩]) (h.only ho (fun _ _ h => h)) rfl (fun j u hj => ?_) (by omega)).mono ?_
  · rw [acCells_one] at hj
    exact cells_new w [.int .i64 a, .int .i64 b, .int .i64 c] 37 j u hj
  · rintro e w' ⟨rfl, hP⟩
    exact ⟨rfl, hP.trans (Mv.of_only ho)⟩

theorem say_one_rw {vr vo : Value} (h : Rw w lo p r vr o vo) (a b c : Int) (hb : o.length ≤ 60) :
    Calls Try.prog 44 #[.pointer (some ⟨p, 0, none⟩), .slice (some ⟨w.heap.size, 0, none⟩) 1 1] (w.alloc (.cells #[.int .i64 a, .int .i64 b, .int .i64 c] 37)) fun e w' => e = .returned (.tuple #[]) ∧ SayP w w' lo p r vr (o ++ [⟨a, b, c⟩]) vo := by
  have ho : Only (fun _ => False) w (w.alloc (.cells #[.int .i64 a, .int .i64 b, .int .i64 c] 37)) := (Only.refl _ _).alloc _
  refine (say_rw (m := 1) (acts := [⟨a, b, c⟩]) (h.only ho (fun _ _ h => h)) rfl (fun j u hj => ?_) (by omega)).mono ?_
  · rw [acCells_one] at hj
    exact cells_new w [.int .i64 a, .int .i64 b, .int .i64 c] 37 j u hj
  · rintro e w' ⟨rfl, vo', h1, h2⟩
    exact ⟨rfl, vo', h1, (Mv.of_only ho).trans h2⟩

set_option maxRecDepth 100000 in
set_option maxHeartbeats 1600000 in
theorem try_any (h : RQ F w lo p r o) (hm : r.made ≤ 20) (hl : r.runs.length ≤ 20) (ho : o.length ≤ 60) (now : Nat) (hn : now ≤ 4611686018427387904) (n : Int) :
    Calls Try.prog 28 #[.pointer (some ⟨p, 0, none⟩), .int .i64 now, .int .i64 n] w fun e w' => e = .returned (.tuple #[]) ∧ RP F w w' lo p (tryR r now) (o ++ [⟨1, r.made, n⟩]) := by
  obtain ⟨i64, hi64, hz0, hz1, hz2⟩ := info_parts Try.info64
  obtain ⟨vr, vo, h, rfl⟩ := h
  obtain ⟨ar, cr, rfl, hrl, hrm, _, _⟩ := ownsRow_slice h.runs
  have c11 := h.blk.cell 11 _ rfl
  have c8 := h.blk.cell 8 _ rfl
  have f11 := h.blk.free 11
  have hpl := h.blk.lt
  have hlo : lo ≤ w.heap.size := by have := h.low; omega
  have H := Lib.hid h
  obtain ⟨md, hmd⟩ : ∃ md, md = r.made := ⟨_, rfl⟩
  obtain ⟨k, hk⟩ : ∃ k, k = r.runs.length := ⟨_, rfl⟩
  rw [← hmd] at c8 hm ⊢
  rw [← hk] at c11 hl hrl
  have hH := h.runs
  rw [← hk] at hH
  have HH := Lib.hid hH
  have HMD := Lib.hid hmd
  have HK := Lib.hid hk
  clear h hmd hH hk
  go_enter Try.func28, Try.ntmps28
  go_wp2
  go_region_law (refine step_append_row rfl (.tmp 10) (.tmp 17) 58 rfl lo 64 i64 _ 2 16 Try.underlying58 hi64 hz0 hz1 hz2 rfl (by decide) (.slice ar k cr) k (runCells r.runs) rfl (HH.out.alloc _) (some ⟨w.heap.size, 0, none⟩) 1 1 (runCells [⟨md, now⟩]) rfl rfl (fun _ => ⟨_, rfl, cells_new _ [.int .i64 md, .int .i64 now] _⟩) (fun e => by cases e) (run_one _) (by unfold maxLen; omega) (by omega) (by first | (simp only [World.size_drew, World.size_alloc]; omega) | (simp only [World.size_alloc]; omega) | (simp; omega)) ?_; intro v5 w5 hown5 hon5 hat5 _; obtain ⟨a5, k5, rfl, _, _, _, _⟩ := ownsRow_slice hown5; have hon5' : Only (fun i => (Value.slice ar k cr).ownBlock = some i) (w.alloc (.cells #[.int .i64 md, .int .i64 now] 64)) w5 := ⟨hon5.os, hon5.tape, hon5.output, hon5.size, hon5.block⟩; have hb5 := (H.out.blk.alloc (.cells #[.int .i64 md, .int .i64 now] 64)).only hon5' (fun e => H.out.nr (by rw [← HK.out]; exact e)); have e1 := hb5.cell 11 _ rfl; have g1' := hb5.free 11; have HO5 := Lib.hid hown5; have HN5 := Lib.hid hon5'; have HA5 := Lib.hid hat5; clear hown5 hon5 hon5' hat5 hb5)
  all_goals
    go_upto_region 1 with fail
    have hA := (show Rw w lo p r (.slice ar k cr) o vo by rw [HK.out]; exact H.out).appRuns (x := ⟨md, now⟩) ((Only.refl _ w).alloc (.cells #[.int .i64 md, .int .i64 now] 64)) (by rw [← HK.out]; have h := HO5.out; rw [show runCells [⟨md, now⟩] = runC ⟨md, now⟩ by simp [runCells]] at h; exact h) HN5.out (by have h := HA5.out; simp only [World.size_drew, World.size_alloc] at h; exact h) (Nat.le_succ _)
    have HA := Lib.hid (show RP (foot p (.slice ar k cr) vo) w (w5.setCell ⟨p, 11, none⟩ (.slice a5 (k + 1) k5)) lo p { r with runs := r.runs ++ [⟨md, now⟩] } o from ⟨_, rq_of hA.1, hA.2⟩)
    clear hA e1 g1' c11 c8 f11
    generalize w5.setCell ⟨p, 11, none⟩ (.slice a5 (k + 1) k5) = w6 at HA ⊢
    obtain ⟨F6, h6, m6⟩ := HA.out
    have c8 : w6.cell? ⟨p, 8, none⟩ = some (.int .i64 md) := by obtain ⟨_, _, h, _⟩ := h6; rw [HMD.out]; exact h.blk.cell 8 _ rfl
    have hp6 : p < w6.heap.size := (h6.lt p h6.at_p).2
    have H6 := Lib.hid h6
    have M6 := Lib.hid m6
    clear h6 m6
    go_upto_region 2 with (go_at_call 44; (with_reducible refine (say_one H6.out 1 md n ho).mono ?_); rintro e w7 ⟨rfl, hP⟩; have HP := Lib.hid hP; clear hP)
    obtain ⟨F7, h7, m7⟩ := HP.out
    obtain ⟨vr7, vo7, b7, hf7⟩ := h7
    have d8 : w7.cell? ⟨p, 8, none⟩ = some (.int .i64 md) := by rw [HMD.out]; exact b7.blk.cell 8 _ rfl
    have e8 := b7.blk.free 8
    have h8 := b7.setF (i := 8) (u := .int .i64 ((md : Int) + 1)) (r' := { r with runs := r.runs ++ [⟨md, now⟩], made := md + 1 }) (by rfl) rfl
    have H8 := Lib.hid h8
    have M7 := Lib.hid (show Mv F6 (foot p vr7 vo7) w6 w7 by rw [← hf7]; exact m7)
    clear h8 m7 b7 hf7 c8
    go_upto_region 3 with fail
    generalize w7.setCell ⟨p, 8, none⟩ (.int .i64 ((md : Int) + 1)) = w8 at H8 ⊢
    have d7 : w8.cell? ⟨p, 7, none⟩ = some (.int .i64 r.last) := H8.out.1.blk.cell 7 _ rfl
    have e7 := H8.out.1.blk.free 7
    have h9 := H8.out.1.setF (i := 7) (u := .int .i64 now) (r' := { r with runs := r.runs ++ [⟨md, now⟩], made := md + 1, last := now }) (by rfl) rfl
    have H9 := Lib.hid h9
    clear h9 d8 e8
    go_wp2_with fail
    go_end0
    rw [← HK.out]
    refine ⟨rfl, _, ⟨_, _, ?_, rfl⟩, ((M6.out.trans M7.out).trans H8.out.2).trans H9.out.2⟩
    have h := H9.out.1
    unfold tryR
    rw [← HMD.out]
    exact h
end
end Go.Proofs.Ytlcblfkmadjppaa
