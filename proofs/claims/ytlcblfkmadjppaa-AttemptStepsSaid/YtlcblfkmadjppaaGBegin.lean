/- The reference: Begin. -/
import Derived.Test.YtlcblfkmadjppaaGWalks10
import Derived.OwnWalk
namespace Go.Proofs.Ytlcblfkmadjppaa
open Go.RowKit
set_option linter.unusedVariables false
set_option linter.unusedSimpArgs false

theorem zero52 : ∀ w : World, (zeroValue 52).run Try.prog w = .ok (.agg #[.int .i64 0, .int .i64 0, .int .i64 0, .int .i64 0, .int .i64 0, .bool false, .int .i64 0, .int .i64 0, .int .i64 0, .int .i64 0, .int .i64 0, .slice none 0 0, .slice none 0 0, .bool false, .bool false, .slice none 0 0]) w := fun w => by kernel_rfl

set_option maxRecDepth 100000 in
set_option maxHeartbeats 1600000 in
theorem gbegin_ok (pl : Pl) (h : OkPl pl) (now : Nat) (hn : now ≤ 4611686018427387904) (w : World) :
    Calls Try.prog 14 #[.int .i64 pl.retries, .int .i64 pl.hedges, .int .i64 pl.after, .int .i64 pl.per, .int .i64 pl.total, .bool pl.safe, .int .i64 now] w fun e w' =>
      ∃ p v, e = .returned (.tuple #[.pointer (some ⟨p, 0, none⟩), v, .int .i64 0]) ∧ GTold (fun _ => False) w w' w.heap.size p (begunRq pl now) v [⟨1, 0, 0⟩] := by
  obtain ⟨p1, p2, ⟨p3, q3⟩, ⟨p4, q4⟩, ⟨p5, q5⟩⟩ := h
  obtain ⟨pr, hpr⟩ : ∃ pr, pr = begunRq pl now := ⟨_, rfl⟩
  rw [← hpr]
  have HPR := Lib.hid hpr
  clear hpr
  obtain ⟨a, ha⟩ : ∃ a, a = pl.retries := ⟨_, rfl⟩
  obtain ⟨b, hb⟩ : ∃ b, b = pl.hedges := ⟨_, rfl⟩
  obtain ⟨c, hc⟩ : ∃ c, c = pl.after := ⟨_, rfl⟩
  obtain ⟨d, hd⟩ : ∃ d, d = pl.per := ⟨_, rfl⟩
  obtain ⟨t, ht⟩ : ∃ t, t = pl.total := ⟨_, rfl⟩
  obtain ⟨s, hs⟩ : ∃ s, s = pl.safe := ⟨_, rfl⟩
  rw [← ha] at p1 ⊢
  rw [← hb] at p2 ⊢
  rw [← hc] at p3 q3 ⊢
  rw [← hd] at p4 q4 ⊢
  rw [← ht] at p5 q5 ⊢
  rw [← hs]
  have HPL := Lib.hid (show pl = ⟨a, b, c, d, t, s⟩ by rw [ha, hb, hc, hd, ht, hs])
  clear ha hb hc hd ht hs
  have z52 := zero52
  go_enter Try.func14, Try.ntmps14
  go_upto_region 4 with (first
    | (go_at_call 30; (with_reducible refine (gspan_ok _ _ (by omega) (by omega)).mono ?_); rintro e w' ⟨rfl, rfl⟩)
    | (go_at_call 25; (with_reducible refine (rmoment_ok now _ (by omega) (by omega)).mono ?_); rintro e w' ⟨rfl, rfl⟩))
  have hb2 : Blk (w.alloc (Obj.cells #[.int .i64 a, .int .i64 b, .int .i64 c, .int .i64 d, .int .i64 t, .bool s, .int .i64 now, .int .i64 0, .int .i64 0, .int .i64 0, .int .i64 0, .slice none 0 0, .slice none 0 0, .bool false, .bool false, .slice none 0 0] 52)) w.heap.size (gqCells (newRq ⟨a, b, c, d, t, s⟩ now) (.slice none 0 0) (.slice none 0 0) (.slice none 0 0)) 52 := Blk.new w (gqCells (newRq ⟨a, b, c, d, t, s⟩ now) (.slice none 0 0) (.slice none 0 0) (.slice none 0 0)) 52
  have ho2 : Only (fun _ => False) w (w.alloc (Obj.cells #[.int .i64 a, .int .i64 b, .int .i64 c, .int .i64 d, .int .i64 t, .bool s, .int .i64 now, .int .i64 0, .int .i64 0, .int .i64 0, .int .i64 0, .slice none 0 0, .slice none 0 0, .bool false, .bool false, .slice none 0 0] 52)) := (Only.refl _ _).alloc _
  generalize w.alloc (Obj.cells #[.int .i64 a, .int .i64 b, .int .i64 c, .int .i64 d, .int .i64 t, .bool s, .int .i64 now, .int .i64 0, .int .i64 0, .int .i64 0, .int .i64 0, .slice none 0 0, .slice none 0 0, .bool false, .bool false, .slice none 0 0] 52) = w2 at hb2 ho2 ⊢
  obtain ⟨q, hq⟩ : ∃ q, q = w.heap.size := ⟨_, rfl⟩
  rw [← hq] at hb2 ⊢
  have hR : Gw w2 q q (newRq ⟨a, b, c, d, t, s⟩ now) [] (.slice none 0 0) [] (.slice none 0 0) [] (.slice none 0 0) := ⟨hb2, World.ownsRow_nil _ _ _ _, World.ownsRow_nil _ _ _ _, World.ownsRow_nil _ _ _ _, Nat.le_refl _, fun k hk => by cases hk⟩
  have HR := Lib.hid hR
  have HO2 := Lib.hid ho2
  have HQ := Lib.hid hq
  clear hR ho2 hb2 hq z52
  go_wp2_with (first
    | (go_at_call 31; (with_reducible refine (gmake_any HR.out (Nat.zero_le _) (Nat.zero_le _) (Nat.zero_le _) (Nat.zero_le _) now hn 0).mono ?_); rintro e w3 ⟨rfl, hP⟩; obtain ⟨vi3, vb3, vo3, h3, m3⟩ := hP; have H3 := Lib.hid h3; have M3 := Lib.hid m3; clear h3 m3)
    | (go_at_call 32; (with_reducible refine (gtold_any H3.out).mono ?_); rintro e w4 ⟨rfl, h4, ho4, hv4⟩; have H4 := Lib.hid h4; have HO4 := Lib.hid ho4; have HV4 := Lib.hid hv4; clear h4 ho4 hv4))
  go_ret3
  refine ⟨q, vo3, rfl, ?_⟩
  rw [HPR.out, HPL.out, ← HQ.out]
  have hm : Mv (fun _ => False) (gfoot q vi3 vb3 vo3) w w3 := by
    have m0 : Mv (fun _ => False) (gfoot q (.slice none 0 0) (.slice none 0 0) (.slice none 0 0)) w w2 := ⟨HO2.out, fun k hk => by
      rcases hk with rfl | hk | hk | hk
      · exact .inr (by rw [HQ.out]; exact Nat.le_refl _)
      · cases hk
      · cases hk
      · cases hk⟩
    exact m0.trans M3.out
  have hq3 : GQ w3 q q (begunRq ⟨a, b, c, d, t, s⟩ now) vi3 vb3 [⟨1, 0, 0⟩] vo3 := by
    exact H3.out.re rfl
  exact gtold_of hm hq3 (H4.out.re rfl) HO4.out HV4.out

set_option maxRecDepth 100000 in
set_option maxHeartbeats 1600000 in
theorem gbegin_bad (a b c d t : Int) (s : Bool) (now : Int) (h : ¬ (0 ≤ a ∧ a ≤ 5 ∧ 0 ≤ b ∧ b ≤ 3 ∧ (1 ≤ c ∧ c ≤ 1000000) ∧ (1 ≤ d ∧ d ≤ 1000000) ∧ (1 ≤ t ∧ t ≤ 1000000) ∧ isMoment now)) (w : World) :
    Calls Try.prog 14 #[.int .i64 a, .int .i64 b, .int .i64 c, .int .i64 d, .int .i64 t, .bool s, .int .i64 now] w fun e w' => e = .returned (.tuple #[.pointer none, .slice none 0 0, .int .i64 1]) ∧ w = w' := by
  have H := Lib.hid h
  clear h
  have fin : ∀ (x : Bool) (n : Int) (w : World), x = decide (1 ≤ n ∧ n ≤ 1000000) → Calls Try.prog 30 #[.int .i64 n] w fun e w' => e = .returned (.bool x) ∧ w = w' := fun x n w hx => by
    by_cases hn : 1 ≤ n ∧ n ≤ 1000000
    · rw [hx, decide_eq_true hn]; exact gspan_ok n w hn.1 hn.2
    · rw [hx, decide_eq_false hn]; exact gspan_bad n w hn
  have FIN := Lib.hid fin
  clear fin
  obtain ⟨xc, hxc⟩ : ∃ xc, xc = decide (1 ≤ c ∧ c ≤ 1000000) := ⟨_, rfl⟩
  obtain ⟨xd, hxd⟩ : ∃ xd, xd = decide (1 ≤ d ∧ d ≤ 1000000) := ⟨_, rfl⟩
  obtain ⟨xt, hxt⟩ : ∃ xt, xt = decide (1 ≤ t ∧ t ≤ 1000000) := ⟨_, rfl⟩
  have HXC := Lib.hid hxc
  have HXD := Lib.hid hxd
  have HXT := Lib.hid hxt
  have hcase : a < 0 ∨ (0 ≤ a ∧ 5 < a) ∨ (0 ≤ a ∧ a ≤ 5 ∧ b < 0) ∨ (0 ≤ a ∧ a ≤ 5 ∧ 0 ≤ b ∧ 3 < b) ∨ (0 ≤ a ∧ a ≤ 5 ∧ 0 ≤ b ∧ b ≤ 3 ∧ xc = false) ∨ (0 ≤ a ∧ a ≤ 5 ∧ 0 ≤ b ∧ b ≤ 3 ∧ xc = true ∧ xd = false) ∨
      (0 ≤ a ∧ a ≤ 5 ∧ 0 ≤ b ∧ b ≤ 3 ∧ xc = true ∧ xd = true ∧ xt = false) ∨ (0 ≤ a ∧ a ≤ 5 ∧ 0 ≤ b ∧ b ≤ 3 ∧ xc = true ∧ xd = true ∧ xt = true ∧ Hid (now < 0 ∨ 4611686018427387904 < now)) := by
    have hh := H.out
    unfold isMoment at hh
    show _ ∨ _ ∨ _ ∨ _ ∨ _ ∨ _ ∨ _ ∨ (_ ∧ _ ∧ _ ∧ _ ∧ _ ∧ _ ∧ _ ∧ (now < 0 ∨ 4611686018427387904 < now))
    cases xc with
    | false => simp only [reduceCtorEq, false_and, and_false, or_false, and_true]; omega
    | true =>
      have := of_decide_eq_true hxc.symm
      cases xd with
      | false => simp only [reduceCtorEq, false_and, and_false, or_false, false_or, and_true, true_and]; omega
      | true =>
        have := of_decide_eq_true hxd.symm
        cases xt with
        | false => simp only [reduceCtorEq, false_and, and_false, or_false, false_or, and_true, true_and]; omega
        | true =>
          have := of_decide_eq_true hxt.symm
          simp only [reduceCtorEq, false_and, and_false, or_false, false_or, and_true, true_and]; omega
  clear hxc hxd hxt
  rcases hcase with h1 | ⟨h1, h2⟩ | ⟨h1, h2, h3⟩ | ⟨h1, h2, h3, h4⟩ | ⟨h1, h2, h3, h4, rfl⟩ | ⟨h1, h2, h3, h4, rfl, rfl⟩ | ⟨h1, h2, h3, h4, rfl, rfl, rfl⟩ | ⟨h1, h2, h3, h4, rfl, rfl, rfl, hmm⟩
  all_goals
    go_enter Try.func14, Try.ntmps14
    go_wp2_with (first
      | (go_at_call 30; (with_reducible refine (FIN.out _ _ _ HXC.out).mono ?_); rintro e w' ⟨rfl, rfl⟩)
      | (go_at_call 30; (with_reducible refine (FIN.out _ _ _ HXD.out).mono ?_); rintro e w' ⟨rfl, rfl⟩)
      | (go_at_call 30; (with_reducible refine (FIN.out _ _ _ HXT.out).mono ?_); rintro e w' ⟨rfl, rfl⟩)
      | (go_at_call 25; (with_reducible refine (rmoment_bad now _ hmm.out).mono ?_); rintro e w' ⟨rfl, rfl⟩))
    go_ret3
    exact ⟨rfl, rfl⟩
end Go.Proofs.Ytlcblfkmadjppaa
