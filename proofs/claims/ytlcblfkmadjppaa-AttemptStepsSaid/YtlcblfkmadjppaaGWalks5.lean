/- The reference: Fail. -/
import Derived.Test.YtlcblfkmadjppaaGWalks4
namespace Go.Proofs.Ytlcblfkmadjppaa
open Go.RowKit
set_option linter.unusedVariables false
set_option linter.unusedSimpArgs false

section
variable {w : World} {lo p : Nat} {r : Rq} {vi vb vo : Value} {o : List Ac}
/-- What was said is told: the row is the caller's. -/
def GTold (F : Nat → Prop) (w w' : World) (lo p : Nat) (r : Rq) (v : Value) (l : List Ac) : Prop :=
  ∃ vi vb vo, GQ w' lo p r vi vb [] vo ∧ Mv F (gfoot p vi vb vo) w w' ∧ w'.ownsRow lo 66 3 v l.length (acCells l) ∧ (∀ k, v.ownBlock = some k → ¬ gfoot p vi vb vo k) ∧ ∀ k, v.ownBlock = some k → F k ∨ w.heap.size ≤ k
theorem GTold.none_ {w' : World} (h : GQ w lo p r vi vb [] vo) (ho : Only (fun _ => False) w w') : GTold (gfoot p vi vb vo) w w' lo p r (.slice none 0 0) [] :=
  ⟨vi, vb, vo, Gw.only h ho (fun _ _ h => h), Mv.of_only ho, World.ownsRow_nil _ _ _ _, (fun k hk => by cases hk), (fun k hk => by cases hk)⟩
theorem gtold_of {F : Nat → Prop} {w1 w2 : World} (hm : Mv F (gfoot p vi vb vo) w w1) (h1 : GQ w1 lo p r vi vb o vo) (h2 : Gw w2 lo p r (idsOf r.runs) vi (sincesOf r.runs) vb [] (.slice none 0 0)) (ho : Only (fun k => k = p) w1 w2) (hv : w2.ownsRow lo 66 3 vo o.length (acCells o)) :
    GTold F w w2 lo p r vo o := by
  refine ⟨vi, vb, .slice none 0 0, h2, ?_, hv, fun k hk hf => ?_, fun k hk => ?_⟩
  · have m : Mv (gfoot p vi vb vo) (gfoot p vi vb (.slice none 0 0)) w1 w2 := ⟨ho.mono (fun k _ e => .inl e), fun k hk => by
      rcases hk with hk | hk | hk | hk
      · exact .inl (.inl hk)
      · exact .inl (.inr (.inl hk))
      · exact .inl (.inr (.inr (.inl hk)))
      · cases hk⟩
    exact hm.trans m
  · rcases hf with hf | hf | hf | hf
    · exact Gw.no h1 (by rw [hk, hf])
    · exact Gw.nio h1 k hf hk
    · exact Gw.nbo h1 k hf hk
    · cases hf
  · rcases hm.new_ k (.inr (.inr (.inr hk))) with h | h
    · exact .inl h
    · exact .inr h

theorem gqtold_any (h : GQ w lo p r vi vb o vo) : Calls Try.prog 32 #[.pointer (some ⟨p, 0, none⟩)] w fun e w' => e = .returned vo ∧ Gw w' lo p r (idsOf r.runs) vi (sincesOf r.runs) vb [] (.slice none 0 0) ∧ Only (fun k => k = p) w w' ∧ w'.ownsRow lo 66 3 vo o.length (acCells o) := by
  unfold GQ at h
  exact gtold_any h
theorem gqmay_any (h : GQ w lo p r vi vb o vo) (hok : Okw r) (why : Int) (allow : Bool) :
    Calls Try.prog 36 #[.pointer (some ⟨p, 0, none⟩), .int .i64 why, .bool allow] w fun e w' => e = .returned (.bool (mayR r why allow)) ∧ Drawn w w' := by
  unfold GQ at h
  exact gmay_any h hok why allow
set_option maxRecDepth 100000 in
theorem gfail_any (h : GQ w lo p r vi vb [] vo) (hok : Okq r) (now id why : Int) (allow : Bool) :
    Calls Try.prog 16 #[.pointer (some ⟨p, 0, none⟩), .int .i64 now, .int .i64 id, .int .i64 why, .bool allow] w fun e w' =>
      ∃ v, e = .returned (.tuple #[v, .int .i64 (failI r now id why allow).2.2]) ∧ GTold (gfoot p vi vb vo) w w' lo p (failI r now id why allow).1 v (failI r now id why allow).2.1 := by
  have H := Lib.hid h
  have HOK := Lib.hid hok
  have hl := hok.len9
  have hl64 : r.runs.length ≤ 64 := by omega
  have HL := Lib.hid hl64
  clear h hok hl hl64
  unfold failI
  by_cases hm : isMoment now
  · have hm0 := hm
    obtain ⟨h0, h1⟩ := hm0
    obtain ⟨n, rfl⟩ : ∃ n : Nat, now = n := ⟨now.toNat, by omega⟩
    have hn : n ≤ 4611686018427387904 := by omega
    have hn0 : (0 : Int) ≤ n := by omega
    have hn1 : (n : Int) ≤ 4611686018427387904 := by omega
    clear h0 h1
    by_cases hw : why < 1 ∨ 4 < why
    · rw [if_pos (.inr hw)]
      rcases (show why < 1 ∨ (1 ≤ why ∧ 4 < why) by omega) with hw1 | ⟨hw1, hw2⟩
      · clear hm hw
        go_enter Try.func16, Try.ntmps16
        go_wp2_with (go_at_call 25; (with_reducible refine (rmoment_ok n _ hn0 hn1).mono ?_); rintro e w' ⟨rfl, rfl⟩)
        go_ret2
        exact ⟨_, rfl, GTold.none_ H.out (Only.refl _ _)⟩
      · have f1 : decide (why < 1) = false := decide_eq_false (by omega)
        clear hm hw hw1
        go_enter Try.func16, Try.ntmps16
        go_wp2_with (go_at_call 25; (with_reducible refine (rmoment_ok n _ hn0 hn1).mono ?_); rintro e w' ⟨rfl, rfl⟩)
        go_ret2
        exact ⟨_, rfl, GTold.none_ H.out (Only.refl _ _)⟩
    · have hw1 : 1 ≤ why := by omega
      have hw2 : why ≤ 4 := by omega
      rw [if_neg (fun hh => hh.elim (fun h => h hm) hw)]
      have f1 : decide (why < 1) = false := decide_eq_false (by omega)
      have f2 : decide (4 < why) = false := decide_eq_false (by omega)
      clear hm hw
      cases hh : hasR r id with
      | false =>
        rw [if_pos rfl]
        have HH := Lib.hid hh
        clear hh
        go_enter Try.func16, Try.ntmps16
        go_wp2_with (first
          | (go_at_call 25; (with_reducible refine (rmoment_ok n _ hn0 hn1).mono ?_); rintro e w' ⟨rfl, rfl⟩)
          | (go_at_call 33; (with_reducible refine (gruns_any H.out HL.out id).mono ?_); rintro e w' ⟨rfl, rfl⟩; rw [HH.out]))
        go_ret2
        exact ⟨_, rfl, GTold.none_ H.out (Only.refl _ _)⟩
      | true =>
        rw [if_neg (by decide)]
        have HH := Lib.hid hh
        have hf := gfails_any H.out HOK.out (by decide) n hn id why ⟨hw1, hw2⟩ allow
        have HF := Lib.hid hf
        clear hh hf
        go_enter Try.func16, Try.ntmps16
        go_wp2_with (first
          | (go_at_call 25; (with_reducible refine (rmoment_ok n _ hn0 hn1).mono ?_); rintro e w' ⟨rfl, rfl⟩)
          | (go_at_call 33; (with_reducible refine (gruns_any H.out HL.out id).mono ?_); rintro e w' ⟨rfl, rfl⟩; rw [HH.out])
          | (go_at_call 34; (refine HF.out.mono ?_); rintro e w2 ⟨rfl, hP⟩; obtain ⟨vi2, vb2, vo2, h2, m2⟩ := hP; have H2 := Lib.hid h2; have M2 := Lib.hid m2; clear h2 m2)
          | (go_at_call 32; (with_reducible refine (gqtold_any H2.out).mono ?_); rintro e w3 ⟨rfl, h3, ho3, hv3⟩; have H3 := Lib.hid h3; have HO3 := Lib.hid ho3; have HV3 := Lib.hid hv3; clear h3 ho3 hv3))
        go_ret2
        have m := M2.out.widen (G := gfoot p vi vb vo) (fun k hk => hk.imp (fun h => h) (fun h => .inr (.inr h)))
        have m' : Mv (gfoot p vi vb vo) (gfoot p vi2 vb2 vo2) w w2 := ⟨m.only, fun k hk => m.new_ k (.inl hk)⟩
        exact ⟨vo2, rfl, gtold_of m' H2.out H3.out HO3.out HV3.out⟩
  · rw [if_pos (.inl hm)]
    have hb : now < 0 ∨ 4611686018427387904 < now := by unfold isMoment at hm; omega
    have HB := Lib.hid hb
    clear hm hb
    go_enter Try.func16, Try.ntmps16
    go_wp2_with (go_at_call 25; (with_reducible refine (rmoment_bad now _ HB.out).mono ?_); rintro e w' ⟨rfl, rfl⟩)
    go_ret2
    exact ⟨_, rfl, GTold.none_ H.out (Only.refl _ _)⟩
end
end Go.Proofs.Ytlcblfkmadjppaa
