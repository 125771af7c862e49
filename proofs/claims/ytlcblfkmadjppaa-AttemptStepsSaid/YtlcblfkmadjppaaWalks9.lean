/- Begin. -/
import Derived.Test.YtlcblfkmadjppaaWalks8
import Derived.OwnWalk
namespace Go.Proofs.Ytlcblfkmadjppaa
open Go.RowKit
set_option linter.unusedVariables false
set_option linter.unusedSimpArgs false

def newRq (pl : Pl) (now : Nat) : Rq := ⟨pl, now, 0, 0, 0, 0, [], false, false⟩
/-- A request that began. -/
def begunRq (pl : Pl) (now : Nat) : Rq := tryR (newRq pl now) now
structure OkPl (pl : Pl) : Prop where
  p1 : pl.retries ≤ 5
  p2 : pl.hedges ≤ 3
  p3 : 1 ≤ pl.after ∧ pl.after ≤ 1000000
  p4 : 1 ≤ pl.per ∧ pl.per ≤ 1000000
  p5 : 1 ≤ pl.total ∧ pl.total ≤ 1000000
theorem okq_begun {pl : Pl} (h : OkPl pl) {now : Nat} (hn : now ≤ 4611686018427387904) : Okq (begunRq pl now) :=
  ⟨h.p1, h.p2, h.p3, h.p4, h.p5, Nat.zero_le _, Nat.zero_le _, rfl, List.pairwise_singleton _ _, fun x hx => (by rw [List.mem_singleton.1 hx]; exact Nat.lt_succ_self _), hn, hn, fun x hx => (by rw [List.mem_singleton.1 hx]; exact hn), (fun h => by cases h), fun _ => by simp [begunRq, tryR]⟩
abbrev plV (a b c d e : Int) (s : Bool) : Value := .agg #[.int .i64 a, .int .i64 b, .int .i64 c, .int .i64 d, .int .i64 e, .bool s]

structure Begun (w w' : World) (q : Nat) (r : Rq) (v : Value) : Prop where
  rq : ∃ F, RQ F w' w.heap.size q r [] ∧ ∀ k, v.ownBlock = some k → ¬ F k
  row : w'.ownsRow w.heap.size 37 3 v 1 (acCells [⟨1, 0, 0⟩])
  below : Below w.heap.size w w'

theorem Try.info60z : ∀ w : World, (zeroValue 60).run Try.prog w = .ok (.agg #[.int .i64 0, .int .i64 0, .int .i64 0, .int .i64 0, .int .i64 0, .bool false, .int .i64 0, .int .i64 0, .int .i64 0, .int .i64 0, .int .i64 0, .slice none 0 0, .bool false, .bool false, .slice none 0 0]) w := fun w => by kernel_rfl

set_option maxRecDepth 100000 in
set_option maxHeartbeats 1600000 in
theorem begin_ok (pl : Pl) (h : OkPl pl) (now : Nat) (hn : now ≤ 4611686018427387904) (w : World) :
    Calls Try.prog 9 #[plV pl.retries pl.hedges pl.after pl.per pl.total pl.safe, .int .i64 now] w fun e w' =>
      ∃ q v, e = .returned (.tuple #[.pointer (some ⟨q, 0, none⟩), v, .int .i64 0]) ∧ Begun w w' q (begunRq pl now) v := by
  obtain ⟨p1, p2, ⟨p3, q3⟩, ⟨p4, q4⟩, ⟨p5, q5⟩⟩ := h
  obtain ⟨pr, hpr⟩ : ∃ pr, pr = begunRq pl now := ⟨_, rfl⟩
  rw [← hpr]
  have HPR := Lib.hid hpr
  clear hpr
  obtain ⟨a, ha⟩ : ∃ a, a = pl.retries := ⟨_, rfl⟩
  obtain ⟨b, hb⟩ : ∃ b, b = pl.hedges := ⟨_, rfl⟩
  obtain ⟨c, hc⟩ : ∃ c, c = pl.after := ⟨_, rfl⟩
  obtain ⟨d, hd⟩ : ∃ d, d = pl.per := ⟨_, rfl⟩
  obtain ⟨t, ht⟩ : ∃ t, t = pl.total := ⟨_, rfl⟩
  obtain ⟨s, hs⟩ : ∃ s, s = pl.safe := ⟨_, rfl⟩
  rw [← ha] at p1 ⊢
  rw [← hb] at p2 ⊢
  rw [← hc] at p3 q3 ⊢
  rw [← hd] at p4 q4 ⊢
  rw [← ht] at p5 q5 ⊢
  rw [← hs]
  have HPL := Lib.hid (show pl = ⟨a, b, c, d, t, s⟩ by rw [ha, hb, hc, hd, ht, hs])
  clear ha hb hc hd ht hs
  go_enter Try.func9, Try.ntmps9
  go_upto_region 1 with fail
  have hbx : Blk (w.alloc (Obj.cells #[.int .i64 a, .int .i64 b, .int .i64 c, .int .i64 d, .int .i64 t, .bool s] 23)) w.heap.size [.int .i64 a, .int .i64 b, .int .i64 c, .int .i64 d, .int .i64 t, .bool s] 23 := Blk.new w [.int .i64 a, .int .i64 b, .int .i64 c, .int .i64 d, .int .i64 t, .bool s] 23
  have hox : Only (fun _ => False) w (w.alloc (Obj.cells #[.int .i64 a, .int .i64 b, .int .i64 c, .int .i64 d, .int .i64 t, .bool s] 23)) := (Only.refl _ _).alloc _
  have hz : (w.alloc (Obj.cells #[.int .i64 a, .int .i64 b, .int .i64 c, .int .i64 d, .int .i64 t, .bool s] 23)).heap.size = w.heap.size + 1 := by simp
  obtain ⟨g, hg⟩ : ∃ g, g = w.heap.size := ⟨_, rfl⟩
  rw [← hg] at hbx ⊢
  generalize w.alloc (Obj.cells #[.int .i64 a, .int .i64 b, .int .i64 c, .int .i64 d, .int .i64 t, .bool s] 23) = w1 at hbx hox hz ⊢
  have c0 := hbx.cell 0 _ rfl
  have c1 := hbx.cell 1 _ rfl
  have c2 := hbx.cell 2 _ rfl
  have c3 := hbx.cell 3 _ rfl
  have c4 := hbx.cell 4 _ rfl
  have c5 := hbx.cell 5 _ rfl
  have hgl := hbx.lt
  have HG := Lib.hid hg
  have HZ := Lib.hid hz
  have HOX := Lib.hid hox
  clear hg hbx hox hz
  go_upto_region 3 with (first
    | (go_at_call 26; (with_reducible refine (span_ok _ _ (by omega) (by omega)).mono ?_); rintro e w' ⟨rfl, rfl⟩)
    | (go_at_call 27; (with_reducible refine (moment_ok now _ hn).mono ?_); rintro e w' ⟨rfl, rfl⟩))
  have z60 := Try.info60z
  go_upto_region 4 with fail
  obtain ⟨cs, hcs⟩ : ∃ cs, cs = rqCells (newRq ⟨a, b, c, d, t, s⟩ now) (.slice none 0 0) (.slice none 0 0) := ⟨_, rfl⟩
  have hb2 : Blk (w1.alloc (Obj.cells #[.int .i64 a, .int .i64 b, .int .i64 c, .int .i64 d, .int .i64 t, .bool s, .int .i64 now, .int .i64 0, .int .i64 0, .int .i64 0, .int .i64 0, .slice none 0 0, .bool false, .bool false, .slice none 0 0] 60)) w1.heap.size (rqCells (newRq ⟨a, b, c, d, t, s⟩ now) (.slice none 0 0) (.slice none 0 0)) 60 := Blk.new w1 (rqCells (newRq ⟨a, b, c, d, t, s⟩ now) (.slice none 0 0) (.slice none 0 0)) 60
  have ho2 : Only (fun _ => False) w1 (w1.alloc (Obj.cells #[.int .i64 a, .int .i64 b, .int .i64 c, .int .i64 d, .int .i64 t, .bool s, .int .i64 now, .int .i64 0, .int .i64 0, .int .i64 0, .int .i64 0, .slice none 0 0, .bool false, .bool false, .slice none 0 0] 60)) := (Only.refl _ _).alloc _
  clear hcs
  generalize w1.alloc (Obj.cells #[.int .i64 a, .int .i64 b, .int .i64 c, .int .i64 d, .int .i64 t, .bool s, .int .i64 now, .int .i64 0, .int .i64 0, .int .i64 0, .int .i64 0, .slice none 0 0, .bool false, .bool false, .slice none 0 0] 60) = w2 at hb2 ho2 ⊢
  obtain ⟨q, hq⟩ : ∃ q, q = w1.heap.size := ⟨_, rfl⟩
  rw [← hq] at hb2 ⊢
  have hqw : w.heap.size ≤ q := by have := HZ.out; omega
  have hql := hb2.lt
  have hR : Rw w2 w.heap.size q (newRq ⟨a, b, c, d, t, s⟩ now) (.slice none 0 0) [] (.slice none 0 0) := ⟨hb2, World.ownsRow_nil _ _ _ _, World.ownsRow_nil _ _ _ _, hqw⟩
  have hO2 : Only (fun _ => False) w w2 := HOX.out.trans ho2 (fun _ _ h => h)
  have HR := Lib.hid hR
  have HO2 := Lib.hid hO2
  clear hR hO2 ho2 hb2 hq c0 c1 c2 c3 c4 c5 z60
  go_wp2_with (first
    | (go_at_call 28; (with_reducible refine (try_any (rq_of HR.out) (Nat.zero_le _) (Nat.zero_le _) (Nat.zero_le _) now hn 0).mono ?_); rintro e w3 ⟨rfl, hP⟩; obtain ⟨F3, h3, m3⟩ := hP; have H3 := Lib.hid h3; have M3 := Lib.hid m3; clear h3 m3)
    | (go_at_call 29; (with_reducible refine (told_any H3.out).mono ?_); rintro e w4 ⟨v, rfl, hT⟩; have HT := Lib.hid hT; clear hT))
  go_ret3
  obtain ⟨F4, h4, m4, hrow, hap, hvb⟩ := HT.out
  have hlow : ∀ k, foot q (.slice none 0 0) (.slice none 0 0) k → w.heap.size ≤ k := fun k hk => by
    rcases hk with rfl | hk | hk
    · exact hqw
    · cases hk
    · cases hk
  refine ⟨q, v, rfl, ⟨F4, ?_, hap⟩, hrow, ?_⟩
  · rw [HPR.out, HPL.out]
    exact h4
  · exact below_only ((HO2.out).below (Nat.le_refl _) (fun _ h => h.elim)) (M3.out.trans m4).only HO2.out.size (fun k hk => hlow k hk)

set_option maxRecDepth 100000 in
set_option maxHeartbeats 1600000 in
theorem begin_bad (a b c d t : Int) (s : Bool) (now : Int) (h : ¬ (0 ≤ a ∧ a ≤ 5 ∧ 0 ≤ b ∧ b ≤ 3 ∧ (1 ≤ c ∧ c ≤ 1000000) ∧ (1 ≤ d ∧ d ≤ 1000000) ∧ (1 ≤ t ∧ t ≤ 1000000) ∧ isMoment now)) (w : World) :
    Calls Try.prog 9 #[plV a b c d t s, .int .i64 now] w fun e w' => e = .returned (.tuple #[.pointer none, .slice none 0 0, .int .i64 1]) ∧ Only (fun _ => False) w w' := by
  have H := Lib.hid h
  clear h
  go_enter Try.func9, Try.ntmps9
  go_upto_region 1 with fail
  have hbx : Blk (w.alloc (Obj.cells #[.int .i64 a, .int .i64 b, .int .i64 c, .int .i64 d, .int .i64 t, .bool s] 23)) w.heap.size [.int .i64 a, .int .i64 b, .int .i64 c, .int .i64 d, .int .i64 t, .bool s] 23 := Blk.new w [.int .i64 a, .int .i64 b, .int .i64 c, .int .i64 d, .int .i64 t, .bool s] 23
  have hox : Only (fun _ => False) w (w.alloc (Obj.cells #[.int .i64 a, .int .i64 b, .int .i64 c, .int .i64 d, .int .i64 t, .bool s] 23)) := (Only.refl _ _).alloc _
  obtain ⟨g, hg⟩ : ∃ g, g = w.heap.size := ⟨_, rfl⟩
  rw [← hg] at hbx ⊢
  generalize w.alloc (Obj.cells #[.int .i64 a, .int .i64 b, .int .i64 c, .int .i64 d, .int .i64 t, .bool s] 23) = w1 at hbx hox ⊢
  have c0 := hbx.cell 0 _ rfl
  have c1 := hbx.cell 1 _ rfl
  have c2 := hbx.cell 2 _ rfl
  have c3 := hbx.cell 3 _ rfl
  have c4 := hbx.cell 4 _ rfl
  have c5 := hbx.cell 5 _ rfl
  have hgl := hbx.lt
  have HOX := Lib.hid hox
  clear hg hbx hox
  have fin : ∀ (x : Bool) (n : Int) (w : World), x = decide (1 ≤ n ∧ n ≤ 1000000) → Calls Try.prog 26 #[.int .i64 n] w fun e w' => e = .returned (.bool x) ∧ w = w' := fun x n w hx => by
    by_cases hn : 1 ≤ n ∧ n ≤ 1000000
    · rw [hx, decide_eq_true hn]; exact span_ok n w hn.1 hn.2
    · rw [hx, decide_eq_false hn]; exact span_bad n w hn
  have FIN := Lib.hid fin
  clear fin
  obtain ⟨xc, hxc⟩ : ∃ xc, xc = decide (1 ≤ c ∧ c ≤ 1000000) := ⟨_, rfl⟩
  obtain ⟨xd, hxd⟩ : ∃ xd, xd = decide (1 ≤ d ∧ d ≤ 1000000) := ⟨_, rfl⟩
  obtain ⟨xt, hxt⟩ : ∃ xt, xt = decide (1 ≤ t ∧ t ≤ 1000000) := ⟨_, rfl⟩
  have HXC := Lib.hid hxc
  have HXD := Lib.hid hxd
  have HXT := Lib.hid hxt
  have hcase : a < 0 ∨ (0 ≤ a ∧ 5 < a) ∨ (0 ≤ a ∧ a ≤ 5 ∧ b < 0) ∨ (0 ≤ a ∧ a ≤ 5 ∧ 0 ≤ b ∧ 3 < b) ∨ (0 ≤ a ∧ a ≤ 5 ∧ 0 ≤ b ∧ b ≤ 3 ∧ xc = false) ∨ (0 ≤ a ∧ a ≤ 5 ∧ 0 ≤ b ∧ b ≤ 3 ∧ xc = true ∧ xd = false) ∨
      (0 ≤ a ∧ a ≤ 5 ∧ 0 ≤ b ∧ b ≤ 3 ∧ xc = true ∧ xd = true ∧ xt = false) ∨ (0 ≤ a ∧ a ≤ 5 ∧ 0 ≤ b ∧ b ≤ 3 ∧ xc = true ∧ xd = true ∧ xt = true ∧ Hid (now < 0 ∨ 4611686018427387904 < now)) := by
    have hh := H.out
    unfold isMoment at hh
    show _ ∨ _ ∨ _ ∨ _ ∨ _ ∨ _ ∨ _ ∨ (_ ∧ _ ∧ _ ∧ _ ∧ _ ∧ _ ∧ _ ∧ (now < 0 ∨ 4611686018427387904 < now))
    cases xc with
    | false => simp only [reduceCtorEq, false_and, and_false, or_false, and_true]; omega
    | true =>
      have := of_decide_eq_true hxc.symm
      cases xd with
      | false => simp only [reduceCtorEq, false_and, and_false, or_false, false_or, and_true, true_and]; omega
      | true =>
        have := of_decide_eq_true hxd.symm
        cases xt with
        | false => simp only [reduceCtorEq, false_and, and_false, or_false, false_or, and_true, true_and]; omega
        | true =>
          have := of_decide_eq_true hxt.symm
          simp only [reduceCtorEq, false_and, and_false, or_false, false_or, and_true, true_and]; omega
  clear hxc hxd hxt
  rcases hcase with h1 | ⟨h1, h2⟩ | ⟨h1, h2, h3⟩ | ⟨h1, h2, h3, h4⟩ | ⟨h1, h2, h3, h4, rfl⟩ | ⟨h1, h2, h3, h4, rfl, rfl⟩ | ⟨h1, h2, h3, h4, rfl, rfl, rfl⟩ | ⟨h1, h2, h3, h4, rfl, rfl, rfl, hmm⟩
  all_goals
    go_wp2_with (first
      | (go_at_call 26; (with_reducible refine (FIN.out _ _ _ HXC.out).mono ?_); rintro e w' ⟨rfl, rfl⟩)
      | (go_at_call 26; (with_reducible refine (FIN.out _ _ _ HXD.out).mono ?_); rintro e w' ⟨rfl, rfl⟩)
      | (go_at_call 26; (with_reducible refine (FIN.out _ _ _ HXT.out).mono ?_); rintro e w' ⟨rfl, rfl⟩)
      | (go_at_call 27; (with_reducible refine (moment_bad now _ hmm.out).mono ?_); rintro e w' ⟨rfl, rfl⟩))
    go_ret3
    exact ⟨rfl, HOX.out⟩
end Go.Proofs.Ytlcblfkmadjppaa
