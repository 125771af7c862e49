/- span, moment, later; say, told, Over. -/
import Derived.Test.YtlcblfkmadjppaaBase
namespace Go.Proofs.Ytlcblfkmadjppaa
open Go.RowKit
set_option linter.unusedVariables false
set_option linter.unusedSimpArgs false

theorem span_ok (n : Int) (w : World) (h1 : 1 ≤ n) (h2 : n ≤ 1000000) : Calls Try.prog 26 #[.int .i64 n] w fun e w' => e = .returned (.bool true) ∧ w = w' := by
  go_enter Try.func26, Try.ntmps26
  go_wp2
  go_ret
  exact ⟨rfl, rfl⟩
theorem span_bad (n : Int) (w : World) (h : ¬ (1 ≤ n ∧ n ≤ 1000000)) : Calls Try.prog 26 #[.int .i64 n] w fun e w' => e = .returned (.bool false) ∧ w = w' := by
  rcases (show n < 1 ∨ (1 ≤ n ∧ 1000000 < n) by omega) with h1 | ⟨h1, h2⟩
  · have f1 : decide (1 ≤ n) = false := decide_eq_false (by omega)
    clear h
    go_enter Try.func26, Try.ntmps26
    go_wp2
    go_ret
    exact ⟨rfl, rfl⟩
  · have f2 : decide (n ≤ 1000000) = false := decide_eq_false (by omega)
    clear h
    go_enter Try.func26, Try.ntmps26
    go_wp2
    go_ret
    exact ⟨rfl, rfl⟩

theorem tmoment_ok (t : Int) (w : World) (h1 : 0 ≤ t) (h2 : t ≤ 4611686018427387904) : Calls Try.prog 51 #[.int .i64 t] w fun e w' => e = .returned (.bool true) ∧ w = w' := by
  go_enter Try.func51, Try.ntmps51
  go_wp2
  go_ret
  exact ⟨rfl, rfl⟩
theorem tmoment_bad (t : Int) (w : World) (h : t < 0 ∨ 4611686018427387904 < t) : Calls Try.prog 51 #[.int .i64 t] w fun e w' => e = .returned (.bool false) ∧ w = w' := by
  rcases (show t < 0 ∨ (0 ≤ t ∧ 4611686018427387904 < t) by omega) with h1 | ⟨h1, h2⟩
  · have f1 : decide (0 ≤ t) = false := decide_eq_false (by omega)
    clear h
    go_enter Try.func51, Try.ntmps51
    go_wp2
    go_ret
    exact ⟨rfl, rfl⟩
  · have f2 : decide (t ≤ 4611686018427387904) = false := decide_eq_false (by omega)
    clear h
    go_enter Try.func51, Try.ntmps51
    go_wp2
    go_ret
    exact ⟨rfl, rfl⟩
theorem tlater_any (t d : Nat) (w : World) (h1 : t ≤ 4611686018427387904) (h2 : d ≤ 1000000) : Calls Try.prog 56 #[.int .i64 t, .int .i64 d] w fun e w' => e = .returned (.int .i64 (later t d : Nat)) ∧ w = w' := by
  by_cases h : t + d ≤ 4611686018427387904
  · have e : later t d = t + d := if_pos h
    have f1 : decide (4611686018427387904 - (t : Int) < (d : Int)) = false := decide_eq_false (by omega)
    rw [e]
    clear e
    go_enter Try.func56, Try.ntmps56
    go_wp2
    go_ret
    exact ⟨ret_int (by omega), rfl⟩
  · have e : later t d = 4611686018427387904 := if_neg h
    have f1 : decide (4611686018427387904 - (t : Int) < (d : Int)) = true := decide_eq_true (by omega)
    rw [e]
    clear e
    go_enter Try.func56, Try.ntmps56
    go_wp2
    go_ret
    exact ⟨ret_int (by omega), rfl⟩
theorem tadd_ok (t d : Nat) (w : World) (h1 : t ≤ 4611686018427387904) (h2 : d ≤ 1000000) : Calls Try.prog 50 #[.int .i64 t, .int .i64 d] w fun e w' => e = .returned (.tuple #[.int .i64 (later t d : Nat), .int .i64 0]) ∧ w = w' := by
  obtain ⟨l, hl⟩ : ∃ l, l = later t d := ⟨_, rfl⟩
  have h := tlater_any t d w h1 h2
  rw [← hl] at h ⊢
  have H := Lib.hid h
  clear h hl
  go_enter Try.func50, Try.ntmps50
  go_wp2_with (first
    | (go_at_call 51; (with_reducible refine (tmoment_ok t _ (by omega) (by omega)).mono ?_); rintro e w' ⟨rfl, rfl⟩)
    | (go_at_call 56; (refine H.out.mono ?_); rintro e w' ⟨rfl, rfl⟩))
  go_ret2
  exact ⟨rfl, rfl⟩
theorem tadd_bad (t : Int) (w : World) (h : t < 0 ∨ 4611686018427387904 < t) : Calls Try.prog 50 #[.int .i64 t, .int .i64 0] w fun e w' => e = .returned (.tuple #[.int .i64 0, .int .i64 1]) ∧ w = w' := by
  have H := Lib.hid h
  clear h
  go_enter Try.func50, Try.ntmps50
  go_wp2_with (go_at_call 51; (with_reducible refine (tmoment_bad t _ H.out).mono ?_); rintro e w' ⟨rfl, rfl⟩)
  go_ret2
  exact ⟨rfl, rfl⟩
theorem moment_ok (t : Nat) (w : World) (h : t ≤ 4611686018427387904) : Calls Try.prog 27 #[.int .i64 t] w fun e w' => e = .returned (.bool true) ∧ w = w' := by
  go_enter Try.func27, Try.ntmps27
  go_wp2_with (go_at_call 50; (refine (tadd_ok t 0 _ h (by omega)).mono ?_); rintro e w' ⟨rfl, rfl⟩)
  go_ret
  exact ⟨rfl, rfl⟩
theorem moment_bad (t : Int) (w : World) (h : t < 0 ∨ 4611686018427387904 < t) : Calls Try.prog 27 #[.int .i64 t] w fun e w' => e = .returned (.bool false) ∧ w = w' := by
  have H := Lib.hid h
  clear h
  go_enter Try.func27, Try.ntmps27
  go_wp2_with (go_at_call 50; (refine (tadd_bad t _ H.out).mono ?_); rintro e w' ⟨rfl, rfl⟩)
  go_ret
  exact ⟨rfl, rfl⟩
theorem later_any (t d : Nat) (w : World) (h1 : t ≤ 4611686018427387904) (h2 : d ≤ 1000000) : Calls Try.prog 40 #[.int .i64 t, .int .i64 d] w fun e w' => e = .returned (.int .i64 (later t d : Nat)) ∧ w = w' := by
  obtain ⟨l, hl⟩ : ∃ l, l = later t d := ⟨_, rfl⟩
  have h := tadd_ok t d w h1 h2
  rw [← hl] at h ⊢
  have H := Lib.hid h
  clear h hl
  go_enter Try.func40, Try.ntmps40
  go_wp2_with (go_at_call 50; (refine H.out.mono ?_); rintro e w' ⟨rfl, rfl⟩)
  go_ret
  exact ⟨rfl, rfl⟩

section
variable {F : Nat → Prop} {w : World} {lo p : Nat} {r : Rq} {o : List Ac}

theorem over_nil (w : World) : Calls Try.prog 12 #[.pointer none] w fun e w' => e = .returned (.bool true) ∧ w = w' := by
  go_enter Try.func12, Try.ntmps12
  go_wp2
  go_ret
  exact ⟨rfl, rfl⟩
theorem over_any (h : RQ F w lo p r o) : Calls Try.prog 12 #[.pointer (some ⟨p, 0, none⟩)] w fun e w' => e = .returned (.bool r.over) ∧ w = w' := by
  obtain ⟨vr, vo, h, -⟩ := h
  have c := h.blk.cell 12 _ rfl
  clear h
  go_enter Try.func12, Try.ntmps12
  go_wp2
  go_ret
  exact ⟨rfl, rfl⟩

/-- What saying does. -/
def SayP (w w' : World) (lo p : Nat) (r : Rq) (vr : Value) (o' : List Ac) (vo : Value) : Prop := ∃ vo', Rw w' lo p r vr o' vo' ∧ Mv (foot p vr vo) (foot p vr vo') w w'
theorem say_rw {vr vo : Value} (h : Rw w lo p r vr o vo) {sp : Addr} {m c : Nat} {acts : List Ac} (hm : acts.length = m) (hsp : ∀ j u, (acCells acts)[j]? = some u → w.cell? (sp.add j) = some u) (hb : o.length + m ≤ 64) :
    Calls Try.prog 44 #[.pointer (some ⟨p, 0, none⟩), .slice (some sp) m c] w fun e w' => e = .returned (.tuple #[]) ∧ SayP w w' lo p r vr (o ++ acts) vo := by
  obtain ⟨i37, hi37, hz0, hz1, hz2⟩ := info_parts Try.info37
  obtain ⟨ao, co, rfl, _, _, _, _⟩ := ownsRow_slice h.out
  have cc := h.blk.cell 14 _ rfl
  have f := h.blk.free 14
  have H := Lib.hid h
  have HSP := Lib.hid hsp
  have HM := Lib.hid hm
  have hlo : lo ≤ w.heap.size := by have := h.low; have := h.blk.lt; omega
  clear h hsp hm
  go_enter Try.func44, Try.ntmps44
  go_wp2_with (at_builtin; refine wpList_append_row rfl (.tmp 8) (.tmp 9) 26 rfl lo 37 i37 _ 3 24 Try.underlying26 hi37 hz0 hz1 hz2 rfl (by decide) (.slice ao o.length co) o.length (acCells o) rfl H.out.out (some sp) m c (acCells acts) rfl (by rw [acCells_len, HM.out]) (fun _ => ⟨sp, rfl, HSP.out⟩) (fun e => by cases e) (ac_one _) (by unfold maxLen; omega) (by omega) hlo ?_)
  intro v2 w2 hown hon hat _
  obtain ⟨a2, k2, rfl, _, _, _, _⟩ := ownsRow_slice hown
  have hb2 := H.out.blk.only hon (fun e => H.out.no e)
  have f2 := hb2.free 14
  have d2 := hb2.cell 14 _ rfl
  have HW := Lib.hid hown
  have HO := Lib.hid hon
  have HA := Lib.hid hat
  clear hown hon hat hb2 cc f
  go_wp2_with fail
  go_end0
  obtain ⟨h1, h2⟩ := H.out.appOut (acts := acts) (Only.refl _ _) (by rw [HM.out]; exact HW.out) HO.out HA.out (Nat.le_refl _)
  exact ⟨rfl, _, h1, h2⟩

theorem say_any (h : RQ F w lo p r o) {sp : Addr} {m c : Nat} {acts : List Ac} (hm : acts.length = m) (hsp : ∀ j u, (acCells acts)[j]? = some u → w.cell? (sp.add j) = some u) (hb : o.length + m ≤ 64) :
    Calls Try.prog 44 #[.pointer (some ⟨p, 0, none⟩), .slice (some sp) m c] w fun e w' => e = .returned (.tuple #[]) ∧ RP F w w' lo p r (o ++ acts) := by
  obtain ⟨vr, vo, h, rfl⟩ := h
  refine (say_rw h hm hsp hb).mono ?_
  rintro e w' ⟨rfl, vo', h1, h2⟩
  exact ⟨rfl, _, rq_of h1, h2⟩

/-- What was said is told: the row is the caller's. -/
def Told (F : Nat → Prop) (w w' : World) (lo p : Nat) (r : Rq) (v : Value) (l : List Ac) : Prop :=
  ∃ F', RQ F' w' lo p r [] ∧ Mv F F' w w' ∧ w'.ownsRow lo 37 3 v l.length (acCells l) ∧ (∀ k, v.ownBlock = some k → ¬ F' k) ∧ ∀ k, v.ownBlock = some k → F k ∨ w.heap.size ≤ k
theorem told_any (h : RQ F w lo p r o) : Calls Try.prog 29 #[.pointer (some ⟨p, 0, none⟩)] w fun e w' => ∃ v, e = .returned v ∧ Told F w w' lo p r v o := by
  obtain ⟨vr, vo, h, rfl⟩ := h
  obtain ⟨ao, co, rfl, _, _, _, _⟩ := ownsRow_slice h.out
  have c := h.blk.cell 14 _ rfl
  have f := h.blk.free 14
  have H := Lib.hid h
  clear h
  go_enter Try.func29, Try.ntmps29
  go_wp2
  go_ret
  have h1 := H.out.setOut (v := .slice none 0 0) (o' := []) (World.ownsRow_nil _ _ _ _) (by intro e; cases e)
  refine ⟨.slice ao o.length co, rfl, _, ⟨_, _, h1, rfl⟩, ⟨(only_p w p 14 _).mono (fun k _ e => .inl e), fun k hk => ?_⟩, owns_only H.out.out (only_p w p 14 _) (fun k hk e => H.out.no (by rw [hk, e])), fun k hk hf => ?_, fun k hk => .inl (.inr (.inr hk))⟩
  · rcases hk with hk | hk | hk
    · exact .inl (.inl hk)
    · exact .inl (.inr (.inl hk))
    · cases hk
  · rcases hf with e | hf | hf
    · exact H.out.no (by rw [hk, e])
    · exact own_own_ne H.out.runs H.out.out (by decide) k hf hk
    · cases hf
end
end Go.Proofs.Ytlcblfkmadjppaa
