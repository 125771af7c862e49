/- The reference: span, Later, told, make, done. -/
import Derived.Test.YtlcblfkmadjppaaGBase
import Derived.Test.YtlcblfkmadjppaaLaws1
namespace Go.Proofs.Ytlcblfkmadjppaa
open Go.RowKit
set_option linter.unusedVariables false
set_option linter.unusedSimpArgs false

theorem gspan_ok (n : Int) (w : World) (h1 : 1 ≤ n) (h2 : n ≤ 1000000) : Calls Try.prog 30 #[.int .i64 n] w fun e w' => e = .returned (.bool true) ∧ w = w' := by
  go_enter Try.func30, Try.ntmps30
  go_wp2
  go_ret
  exact ⟨rfl, rfl⟩
theorem gspan_bad (n : Int) (w : World) (h : ¬ (1 ≤ n ∧ n ≤ 1000000)) : Calls Try.prog 30 #[.int .i64 n] w fun e w' => e = .returned (.bool false) ∧ w = w' := by
  rcases (show n < 1 ∨ (1 ≤ n ∧ 1000000 < n) by omega) with h1 | ⟨h1, h2⟩
  · have f1 : decide (1 ≤ n) = false := decide_eq_false (by omega)
    clear h
    go_enter Try.func30, Try.ntmps30
    go_wp2
    go_ret
    exact ⟨rfl, rfl⟩
  · have f2 : decide (n ≤ 1000000) = false := decide_eq_false (by omega)
    clear h
    go_enter Try.func30, Try.ntmps30
    go_wp2
    go_ret
    exact ⟨rfl, rfl⟩
theorem glater_any (t d : Nat) (w : World) (h1 : t ≤ 4611686018427387904) (h2 : d ≤ 1000000) : Calls Try.prog 38 #[.int .i64 t, .int .i64 d] w fun e w' => e = .returned (.int .i64 (later t d : Nat)) ∧ w = w' := by
  have f0 : decide ((t : Int) + d < t) = false := decide_eq_false (by omega)
  have f0n : decide (t + d < t) = false := decide_eq_false (by omega)
  by_cases h : t + d ≤ 4611686018427387904
  · have e : later t d = t + d := if_pos h
    have f1 : decide (4611686018427387904 < (t : Int) + d) = false := decide_eq_false (by omega)
    have f1n : decide (4611686018427387904 < t + d) = false := decide_eq_false (by omega)
    rw [e]
    clear e
    go_enter Try.func38, Try.ntmps38
    go_wp2
    go_ret
    exact ⟨ret_int (by omega), rfl⟩
  · have e : later t d = 4611686018427387904 := if_neg h
    have f1 : decide (4611686018427387904 < (t : Int) + d) = true := decide_eq_true (by omega)
    have f1n : decide (4611686018427387904 < t + d) = true := decide_eq_true (by omega)
    rw [e]
    clear e
    go_enter Try.func38, Try.ntmps38
    go_wp2
    go_ret
    exact ⟨ret_int (by omega), rfl⟩

section
variable {w : World} {lo p : Nat} {r : Rq} {I B : List Int} {vi vb vo : Value} {o : List Ac}

/-- What was said is told. -/
theorem gtold_any (h : Gw w lo p r I vi B vb o vo) : Calls Try.prog 32 #[.pointer (some ⟨p, 0, none⟩)] w fun e w' => e = .returned vo ∧ Gw w' lo p r I vi B vb [] (.slice none 0 0) ∧ Only (fun k => k = p) w w' ∧ w'.ownsRow lo 66 3 vo o.length (acCells o) := by
  obtain ⟨ao, co, rfl, _, _, _, _⟩ := ownsRow_slice h.out
  have cc := h.blk.cell 15 _ rfl
  have f := h.blk.free 15
  have H := Lib.hid h
  clear h
  go_enter Try.func32, Try.ntmps32
  go_wp2
  go_ret
  exact ⟨rfl, H.out.setOut (v := .slice none 0 0) (o' := []) (World.ownsRow_nil _ _ _ _) (by intro e; cases e), only_p w p 15 _, owns_only H.out.out (only_p w p 15 _) (fun k hk e => H.out.no (by rw [hk, e]))⟩

def MakeP (w w' : World) (lo p : Nat) (r : Rq) (I : List Int) (B : List Int) (o : List Ac) (F : Nat → Prop) : Prop :=
  ∃ vi vb vo, Gw w' lo p r I vi B vb o vo ∧ Mv F (gfoot p vi vb vo) w w'

set_option maxRecDepth 100000 in
set_option maxHeartbeats 3200000 in
theorem gmake_any (h : Gw w lo p r I vi B vb o vo) (hm : r.made ≤ 20) (hI : I.length ≤ 20) (hB : B.length ≤ 20) (ho : o.length ≤ 60) (now : Nat) (hn : now ≤ 4611686018427387904) (n : Int) :
    Calls Try.prog 31 #[.pointer (some ⟨p, 0, none⟩), .int .i64 now, .int .i64 n] w fun e w' => e = .returned (.tuple #[]) ∧
      MakeP w w' lo p { r with made := r.made + 1, last := now } (I ++ [(r.made : Int)]) (B ++ [(now : Int)]) (o ++ [⟨1, r.made, n⟩]) (gfoot p vi vb vo) := by
  obtain ⟨i3, hi3, hz30, hz31, hz32⟩ := info_parts Try.info3
  obtain ⟨i66, hi66, hz0, hz1, hz2⟩ := info_parts Try.info66
  obtain ⟨ai, ci, rfl, hci1, hci2, _, _⟩ := ownsRow_slice h.ids
  obtain ⟨ab, cb, rfl, hcb1, hcb2, _, _⟩ := ownsRow_slice h.beg
  obtain ⟨ao, co, rfl, hco1, hco2, _, _⟩ := ownsRow_slice h.out
  obtain ⟨ki, hki⟩ : ∃ k, k = I.length := ⟨_, rfl⟩
  obtain ⟨kb, hkb⟩ : ∃ k, k = B.length := ⟨_, rfl⟩
  obtain ⟨ko, hko⟩ : ∃ k, k = o.length := ⟨_, rfl⟩
  obtain ⟨md, hmd⟩ : ∃ k, k = r.made := ⟨_, rfl⟩
  rw [← hki] at hI hci1 h
  rw [← hkb] at hB hcb1 h
  rw [← hko] at ho hco1 h
  rw [← hki, ← hkb, ← hko, ← hmd]
  rw [← hmd] at hm
  have c11 := h.blk.cell 11 _ rfl
  have f11 := h.blk.free 11
  have c8 : w.cell? ⟨p, 8, none⟩ = some (.int .i64 md) := by rw [hmd]; exact h.blk.cell 8 _ rfl
  have hpl := h.blk.lt
  have hlo : lo ≤ w.heap.size := by have := h.low; omega
  have H := Lib.hid h
  have hI3 := h.ids
  rw [← hki] at hI3
  have HI3 := Lib.hid hI3
  have HKI := Lib.hid hki
  have HKB := Lib.hid hkb
  have HKO := Lib.hid hko
  have HMD := Lib.hid hmd
  clear h hI3 hki hkb hko hmd
  go_enter Try.func31, Try.ntmps31
  go_wp2
  go_region_law (refine step_append_row rfl (.tmp 10) (.tmp 15) 39 rfl lo 3 i3 (.int .i64 0) 1 8 Try.underlying39 hi3 hz30 hz31 hz32 rfl (by decide) (.slice ai ki ci) ki (ints I) rfl (HI3.out.alloc _) (some ⟨w.heap.size, 0, none⟩) 1 1 [.int .i64 md] rfl rfl (fun _ => ⟨_, rfl, new_one _ _ _⟩) (fun e => by cases e) (one_int _ _) (by unfold maxLen; omega) (by omega) (by first | (simp only [World.size_drew, World.size_alloc]; omega) | (simp only [World.size_alloc]; omega) | (simp; omega)) ?_; intro v5 w5 hown5 hon5 hat5 _; obtain ⟨a5, k5, rfl, _, _, _, _⟩ := ownsRow_slice hown5; have hon5' : Only (fun i => (Value.slice ai ki ci).ownBlock = some i) (w.alloc (.cells #[.int .i64 md] 3)) w5 := ⟨hon5.os, hon5.tape, hon5.output, hon5.size, hon5.block⟩; have hb5 := (H.out.blk.alloc (.cells #[.int .i64 md] 3)).only hon5' (fun e => H.out.ni e); have e1 := hb5.cell 11 _ rfl; have g1' := hb5.free 11; have HO5 := Lib.hid hown5; have HN5 := Lib.hid hon5'; have HA5 := Lib.hid hat5; clear hown5 hon5 hon5' hat5 hb5)
  all_goals
    go_upto_region 1 with fail
    have hA := H.out.appIds (x := (md : Int)) ((Only.refl _ w).alloc (.cells #[.int .i64 md] 3)) (by rw [← HKI.out]; exact HO5.out) HN5.out (by have h := HA5.out; simp only [World.size_drew, World.size_alloc] at h; exact h) (Nat.le_succ _)
    have HA := Lib.hid hA
    clear hA e1 g1' c11 c8 f11
    generalize w5.setCell ⟨p, 11, none⟩ (.slice a5 (ki + 1) k5) = w6 at HA ⊢
    have c12 : w6.cell? ⟨p, 12, none⟩ = some (.slice ab kb cb) := HA.out.1.blk.cell 12 _ rfl
    have hpl6 := HA.out.1.blk.lt
    have hlo6 : lo ≤ w6.heap.size := by have := HA.out.1.low; omega
    have hB3 := HA.out.1.beg
    rw [← HKB.out] at hB3
    have HB3 := Lib.hid hB3
    clear hB3
    go_upto_region 2 with (at_builtin; refine wpList_append_row rfl (.tmp 23) (.tmp 25) 39 rfl lo 3 i3 (.int .i64 0) 1 8 Try.underlying39 hi3 hz30 hz31 hz32 rfl (by decide) (.slice ab kb cb) kb (ints B) rfl (HB3.out.alloc _) (some ⟨w6.heap.size, 0, none⟩) 1 1 [.int .i64 now] rfl rfl (fun _ => ⟨_, rfl, new_one _ _ _⟩) (fun e => by cases e) (one_int _ _) (by unfold maxLen; omega) (by omega) (by simp only [World.size_alloc]; omega) ?_)
    intro v7 w7 hown7 hon7 hat7 _
    obtain ⟨a7, k7, rfl, _, _, _, _⟩ := ownsRow_slice hown7
    have hb7 := (HA.out.1.blk.alloc (.cells #[.int .i64 now] 3)).only hon7 (fun e => HA.out.1.nb e)
    have d12 := hb7.cell 12 _ rfl
    have f12 := hb7.free 12
    have hA7 := HA.out.1.appBeg (x := (now : Int)) ((Only.refl _ w6).alloc (.cells #[.int .i64 now] 3)) (by rw [← HKB.out]; exact hown7) hon7 (by first | exact hat7 | (simp only [World.size_alloc] at hat7; exact hat7)) (Nat.le_succ _)
    have HA7 := Lib.hid hA7
    clear hb7 hA7 hown7 hon7 hat7 c12
    go_upto_region 2 with fail
    generalize w7.setCell ⟨p, 12, none⟩ (.slice a7 (kb + 1) k7) = w8 at HA7 ⊢
    clear d12 f12
    have c15 : w8.cell? ⟨p, 15, none⟩ = some (.slice ao ko co) := HA7.out.1.blk.cell 15 _ rfl
    have c8 : w8.cell? ⟨p, 8, none⟩ = some (.int .i64 md) := by rw [HMD.out]; exact HA7.out.1.blk.cell 8 _ rfl
    have f15 := HA7.out.1.blk.free 15
    have hpl8 := HA7.out.1.blk.lt
    have hlo8 : lo ≤ w8.heap.size := by have := HA7.out.1.low; omega
    have hO3 := HA7.out.1.out
    rw [← HKO.out] at hO3
    have HO3 := Lib.hid hO3
    clear hO3
    have HA6 := Lib.hid HA.out.2
    clear H HI3 HB3 HA
    go_region_law (refine step_append_row rfl (.tmp 33) (.tmp 40) 42 rfl lo 66 i66 _ 3 24 Try.underlying42 hi66 hz0 hz1 hz2 rfl (by decide) (.slice ao ko co) ko (acCells o) rfl (HO3.out.alloc _) (some ⟨w8.heap.size, 0, none⟩) 1 1 (acCells [⟨1, md, n⟩]) rfl rfl (fun _ => ⟨_, rfl, cells_new _ [.int .i64 1, .int .i64 md, .int .i64 n] _⟩) (fun e => by cases e) (ac_one _) (by unfold maxLen; omega) (by omega) (by first | (simp only [World.size_drew, World.size_alloc]; omega) | (simp only [World.size_alloc]; omega) | (simp; omega)) ?_; intro v9 w9 hown9 hon9 hat9 _; obtain ⟨a9, k9, rfl, _, _, _, _⟩ := ownsRow_slice hown9; have hon9' : Only (fun i => (Value.slice ao ko co).ownBlock = some i) (w8.alloc (.cells #[.int .i64 1, .int .i64 md, .int .i64 n] 66)) w9 := ⟨hon9.os, hon9.tape, hon9.output, hon9.size, hon9.block⟩; have hb9 := (HA7.out.1.blk.alloc (.cells #[.int .i64 1, .int .i64 md, .int .i64 n] 66)).only hon9' (fun e => HA7.out.1.no e); have e15 := hb9.cell 15 _ rfl; have g15 := hb9.free 15; have HO9 := Lib.hid hown9; have HN9 := Lib.hid hon9'; have HA9 := Lib.hid hat9; clear hown9 hon9 hon9' hat9 hb9)
    all_goals
      go_upto_region 3 with fail
      have hA9 := HA7.out.1.appOut (acts := [⟨1, md, n⟩]) ((Only.refl _ w8).alloc (.cells #[.int .i64 1, .int .i64 md, .int .i64 n] 66)) (by rw [← HKO.out]; exact HO9.out) HN9.out (by have h := HA9.out; first | exact h | (simp only [World.size_drew, World.size_alloc] at h; exact h)) (Nat.le_succ _)
      have HA10 := Lib.hid hA9
      clear hA9 e15 g15 c15 c8 f15
      generalize w9.setCell ⟨p, 15, none⟩ (.slice a9 (ko + 1) k9) = w10 at HA10 ⊢
      have c8 : w10.cell? ⟨p, 8, none⟩ = some (.int .i64 md) := by rw [HMD.out]; exact HA10.out.1.blk.cell 8 _ rfl
      have f8 := HA10.out.1.blk.free 8
      have hpl10 := HA10.out.1.blk.lt
      have hs8 := HA10.out.1.setF (i := 8) (u := .int .i64 ((md : Int) + 1)) (r' := { r with made := md + 1 }) (by rfl)
      have HS8 := Lib.hid hs8
      clear hs8
      go_upto_region 4 with fail
      generalize w10.setCell ⟨p, 8, none⟩ (.int .i64 ((md : Int) + 1)) = w11 at HS8 ⊢
      have c7 := HS8.out.1.blk.cell 7 _ rfl
      have f7 := HS8.out.1.blk.free 7
      have hpl11 := HS8.out.1.blk.lt
      have hs7 := HS8.out.1.setF (i := 7) (u := .int .i64 now) (r' := { r with made := md + 1, last := now }) (by rfl)
      have HS7 := Lib.hid hs7
      clear hs7 c8 f8
      go_wp2_with fail
      go_end0
      refine ⟨rfl, _, _, _, HS7.out.1, ?_⟩
      have m1 : Mv (gfoot p (.slice ai ki ci) (.slice ab kb cb) (.slice ao ko co)) (gfoot p (.slice a5 (ki + 1) k5) (.slice ab kb cb) (.slice ao ko co)) w w6 := HA6.out
      have m2 := m1.trans HA7.out.2
      have m3 := HA10.out.2.widen (G := gfoot p (.slice a5 (ki + 1) k5) (.slice a7 (kb + 1) k7) (.slice ao ko co)) (fun k hk => hk.imp (fun h => h) (fun h => .inr (.inr h)))
      have m4 := HS8.out.2.widen (G := fun k => pfoot p (.slice a9 (ko + 1) k9) k ∨ gfoot p (.slice a5 (ki + 1) k5) (.slice a7 (kb + 1) k7) (.slice ao ko co) k) (fun k hk => .inl (.inl hk))
      have m5 := HS7.out.2.widen (G := fun k => k = p ∨ pfoot p (.slice a9 (ko + 1) k9) k ∨ gfoot p (.slice a5 (ki + 1) k5) (.slice a7 (kb + 1) k7) (.slice ao ko co) k) (fun k hk => .inl hk)
      have m := ((m2.trans m3).trans m4).trans m5
      refine ⟨m.only, fun k hk => m.new_ k ?_⟩
      rcases hk with hk | hk | hk | hk
      · exact .inl hk
      · exact .inr (.inr (.inr (.inr (.inl hk))))
      · exact .inr (.inr (.inr (.inr (.inr (.inl hk)))))
      · exact .inr (.inr (.inl (.inr hk)))
end
end Go.Proofs.Ytlcblfkmadjppaa
