/- Fail, Begin. -/
import Derived.Test.YtlcblfkmadjppaaWalks7
namespace Go.Proofs.Ytlcblfkmadjppaa
open Go.RowKit
set_option linter.unusedVariables false
set_option linter.unusedSimpArgs false

def isMoment (now : Int) : Prop := 0 ≤ now ∧ now ≤ 4611686018427387904
instance (now : Int) : Decidable (isMoment now) := by unfold isMoment; infer_instance
/-- What Fail tells: the request behind it, the acts, the error. -/
def failI (r : Rq) (now id why : Int) (allow : Bool) : Rq × List Ac × Int :=
  if ¬ isMoment now ∨ why < 1 ∨ 4 < why then (r, [], 1)
  else if hasR r id = false then (r, [], 6)
  else ((failsR r now.toNat id why allow).1, (failsR r now.toNat id why allow).2, 0)

section
variable {F : Nat → Prop} {w : World} {lo p : Nat} {r : Rq} {o : List Ac}

theorem Told.none_ {w' : World} (h : RQ F w lo p r []) (ho : Only (fun _ => False) w w') : Told F w w' lo p r (.slice none 0 0) [] :=
  ⟨F, h.only ho (fun _ _ h => h), Mv.of_only ho, World.ownsRow_nil _ _ _ _, (fun k hk => by cases hk), (fun k hk => by cases hk)⟩
theorem Told.trans {F' : Nat → Prop} {w1 w2 : World} {r' : Rq} {v : Value} {l : List Ac} (hm : Mv F F' w w1) (h : Told F' w1 w2 lo p r' v l) : Told F w w2 lo p r' v l := by
  obtain ⟨F2, h1, h2, h3, h4, h5⟩ := h
  refine ⟨F2, h1, hm.trans h2, h3, h4, fun k hk => ?_⟩
  rcases h5 k hk with hf | hl
  · exact hm.new_ k hf
  · exact .inr (Nat.le_trans hm.only.size hl)

theorem say_len_fails (r : Rq) (now : Nat) (id why : Int) (allow : Bool) : (failsR r now id why allow).2.length ≤ 1 := by
  unfold failsR; split
  · simp
  · split <;> simp

theorem findP_no {r : Rq} {id k : Int} (h : FindP r id k) (hh : hasR r id = false) : k = -1 := by
  rcases h with ⟨h, _⟩ | ⟨_, h⟩
  · rw [hh] at h; cases h
  · exact h
theorem findP_yes {r : Rq} {id k : Int} (h : FindP r id k) (hh : hasR r id = true) : 0 ≤ k := by
  rcases h with ⟨_, h⟩ | ⟨h, _⟩
  · exact h
  · rw [hh] at h; cases h

set_option maxRecDepth 100000 in
theorem fail_any (h : RQ F w lo p r []) (hok : Okq r) (now id why : Int) (allow : Bool) :
    Calls Try.prog 23 #[.pointer (some ⟨p, 0, none⟩), .int .i64 now, .int .i64 id, .int .i64 why, .bool allow] w fun e w' =>
      ∃ v, e = .returned (.tuple #[v, .int .i64 (failI r now id why allow).2.2]) ∧ Told F w w' lo p (failI r now id why allow).1 v (failI r now id why allow).2.1 := by
  have H := Lib.hid h
  have HOK := Lib.hid hok
  clear h hok
  unfold failI
  by_cases hm : isMoment now
  · have hm0 := hm
    obtain ⟨h0, h1⟩ := hm0
    obtain ⟨n, rfl⟩ : ∃ n : Nat, now = n := ⟨now.toNat, by omega⟩
    have hn : n ≤ 4611686018427387904 := by omega
    clear h0 h1
    by_cases hw : why < 1 ∨ 4 < why
    · rw [if_pos (.inr hw)]
      rcases (show why < 1 ∨ (1 ≤ why ∧ 4 < why) by omega) with hw1 | ⟨hw1, hw2⟩
      · clear hm hw
        go_enter Try.func23, Try.ntmps23
        go_wp2_with (go_at_call 27; (with_reducible refine (moment_ok n _ hn).mono ?_); rintro e w' ⟨rfl, rfl⟩)
        go_ret2
        exact ⟨_, rfl, Told.none_ H.out (Only.refl _ _)⟩
      · have f1 : decide (why < 1) = false := decide_eq_false (by omega)
        clear hm hw hw1
        go_enter Try.func23, Try.ntmps23
        go_wp2_with (go_at_call 27; (with_reducible refine (moment_ok n _ hn).mono ?_); rintro e w' ⟨rfl, rfl⟩)
        go_ret2
        exact ⟨_, rfl, Told.none_ H.out (Only.refl _ _)⟩
    · have hw1 : 1 ≤ why := by omega
      have hw2 : why ≤ 4 := by omega
      rw [if_neg (fun hh => hh.elim (fun h => h hm) hw)]
      have f1 : decide (why < 1) = false := decide_eq_false (by omega)
      have f2 : decide (4 < why) = false := decide_eq_false (by omega)
      clear hm hw
      cases hh : hasR r id with
      | false =>
        rw [if_pos rfl]
        have HH := Lib.hid hh
        clear hh
        go_enter Try.func23, Try.ntmps23
        go_wp2_with (first
          | (go_at_call 27; (with_reducible refine (moment_ok n _ hn).mono ?_); rintro e w' ⟨rfl, rfl⟩)
          | (go_at_call 47; (with_reducible refine (find_any H.out id).mono ?_); rintro e w1 ⟨k, rfl, hk, hO⟩; have HO := Lib.hid hO; clear hO; have hk1 := findP_no hk HH.out; subst hk1; clear hk))
        go_ret2
        exact ⟨_, rfl, Told.none_ H.out HO.out⟩
      | true =>
        rw [if_neg (by decide)]
        have HH := Lib.hid hh
        clear hh
        go_enter Try.func23, Try.ntmps23
        go_wp2_with (first
          | (go_at_call 27; (with_reducible refine (moment_ok n _ hn).mono ?_); rintro e w' ⟨rfl, rfl⟩)
          | (go_at_call 47; (with_reducible refine (find_any H.out id).mono ?_); rintro e w1 ⟨k, rfl, hk, hO⟩; have HO := Lib.hid hO; clear hO; have hk1 := findP_yes hk HH.out; clear hk; have f3 : decide (k < 0) = false := decide_eq_false (by omega); have HF := Lib.hid (fails_any (H.out.only HO.out (fun _ _ h => h)) HOK.out (by decide) n hn id why ⟨hw1, hw2⟩ allow))
          | (go_at_call 46; (refine HF.out.mono ?_); rintro e w2 ⟨rfl, hP⟩; obtain ⟨F2, h2, m2⟩ := hP; have H2 := Lib.hid h2; have M2 := Lib.hid m2; clear h2 m2)
          | (go_at_call 29; (with_reducible refine (told_any H2.out).mono ?_); rintro e w3 ⟨v, rfl, hT⟩; have HT := Lib.hid hT; clear hT))
        go_ret2
        exact ⟨_, rfl, (HT.out.trans M2.out).trans (Mv.of_only HO.out)⟩
  · rw [if_pos (.inl hm)]
    have hb : now < 0 ∨ 4611686018427387904 < now := by unfold isMoment at hm; omega
    have HB := Lib.hid hb
    clear hm hb
    go_enter Try.func23, Try.ntmps23
    go_wp2_with (go_at_call 27; (with_reducible refine (moment_bad now _ HB.out).mono ?_); rintro e w' ⟨rfl, rfl⟩)
    go_ret2
    exact ⟨_, rfl, Told.none_ H.out (Only.refl _ _)⟩
end
end Go.Proofs.Ytlcblfkmadjppaa
