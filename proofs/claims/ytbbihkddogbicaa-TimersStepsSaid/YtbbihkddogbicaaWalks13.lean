/- The timers by what they hold: Fire. -/
import Derived.Test.YtbbihkddogbicaaWalks12
namespace Go.Proofs.Ytbbihkddogbicaa
open Go.RowKit
set_option linter.unusedVariables false
set_option linter.unusedSimpArgs false

def ints (l : List Int) : List Value := l.map (Value.int .i64)
def lenOf : Value → Nat
  | .slice _ n _ => n
  | _ => 0
/-- A row of numbers that the call owns. -/
def Ints (w : World) (lo : Nat) (v : Value) (l : List Int) : Prop := w.ownsRow lo 3 1 v l.length (ints l)

section
variable {F : Nat → Prop} {w : World} {lo p most : Nat} {ts : List Tm} {used : List Nat} {set : Nat}

structure FirePost (F : Nat → Prop) (w w' : World) (lo p most : Nat) (ts : List Tm) (used : List Nat) (set : Nat) (now : Int) (v : Value) : Prop where
  row : Ints w' w.heap.size v ((fire now ts).map (·.key))
  tp : TP F w' lo p most (stay now ts) used set
  only : Only F w w'

/-- What stands ahead of a round. -/
structure FireI (F : Nat → Prop) (w wr : World) (lo p most : Nat) (ts : List Tm) (used : List Nat) (set : Nat) (now : Int) (v : Value) (ks : List Int) (t1 : List Tm) : Prop where
  row : Ints wr w.heap.size v ks
  tp : TP F wr lo p most t1 used set
  only : Only F w wr
  keys : (fire now ts).map (·.key) = ks ++ (fire now t1).map (·.key)
  left : stay now ts = stay now t1
  len : ks.length + t1.length ≤ 4096
  old : ∀ k, F k → k < w.heap.size

theorem FireI.done {now : Int} {wr : World} {v : Value} {ks : List Int} {t1 : List Tm} (h : FireI F w wr lo p most ts used set now v ks t1) (hs : ¬ (t1 ≠ [] ∧ (firstL t1).at_ ≤ now)) : FirePost F w wr lo p most ts used set now v := by
  obtain ⟨e1, e2⟩ := fire_stop hs
  refine ⟨?_, by rw [h.left, e2]; exact h.tp, h.only⟩
  rw [h.keys, e1, List.map_nil, List.append_nil]
  exact h.row

theorem FireI.step {now : Int} {wr w1 w2 : World} {v v2 : Value} {ks : List Int} {t1 : List Tm} {o : Obj} (h : FireI F w wr lo p most ts used set now v ks t1) (hs : t1 ≠ [] ∧ (firstL t1).at_ ≤ now) (hP : TPost F F wr w1 lo p most (rest t1 (firstL t1)) used set)
    (hown : w2.ownsRow w.heap.size 3 1 v2 (ks.length + 1) (ints ks ++ [.int .i64 (firstL t1).key])) (hon : Only (fun i => v.ownBlock = some i) (w1.alloc o) w2) :
    FireI F w w2 lo p most ts used set now v2 (ks ++ [(firstL t1).key]) (rest t1 (firstL t1)) := by
  obtain ⟨e1, e2⟩ := fire_step hs
  have hv : ∀ k, v.ownBlock = some k → w.heap.size ≤ k := fun k hk => (ownsRow_lt h.row k hk).1
  have ha : Only (fun i => v.ownBlock = some i) w1 w2 := ((Only.refl _ w1).alloc o).trans hon (fun _ _ h => h)
  have hl := rest_lt hs.1
  refine ⟨?_, hP.1.only ha (fun k hk e => ?_), (h.only.trans hP.2 (fun _ _ h => h)).trans ha (fun k hk e => by have := hv k e; omega), ?_, by rw [h.left, e2], ?_, h.old⟩
  · show w2.ownsRow _ _ _ _ _ _
    rw [List.length_append, List.length_singleton]
    unfold ints at hown ⊢
    rw [List.map_append]
    exact hown
  · have h1 := hv k e
    have h2 := h.old k hk
    omega
  · rw [h.keys, e1]
    simp
  · have := h.len
    rw [List.length_append, List.length_singleton]
    omega

set_option maxRecDepth 100000 in
set_option maxHeartbeats 800000 in
theorem tp_fire (h : TP F w lo p most ts used set) (now : Int) :
    Calls Try.prog 18 #[.pointer (some ⟨p, 0, none⟩), .int .i64 now] w fun e w' => ∃ v, e = .returned v ∧ FirePost F w w' lo p most ts used set now v := by
  obtain ⟨i3, hi3, hz30, hz31, hz32⟩ := info_parts Try.info3
  have hI0 : FireI F w w lo p most ts used set now (.slice none 0 0) [] ts :=
    ⟨World.ownsRow_nil _ _ _ _, h, Only.refl _ _, rfl, rfl, by have := h.ok.len; have := h.ok.most_; simp; omega, fun k hk => (h.lt k hk).2⟩
  have HI0 := Lib.hid hI0
  clear hI0 h
  go_enter Try.func18, Try.ntmps18
  go_wp2
  go_loopw [5] (fun v wr => ∃ (ks : List Int) (t1 : List Tm), FireI F w wr lo p most ts used set now v ks t1) (fun v _ => 4096 - lenOf v)
  case atStart => exact ⟨[], ts, HI0.out⟩
  case round =>
    obtain ⟨ks, t1, hI⟩ := hrel
    obtain ⟨ao, bc, rfl, hbc1, hbc2, _, _⟩ := ownsRow_slice hI.row
    have hlen := hI.len
    obtain ⟨hp, vh, vu, vt, hT, h1, h2, h3⟩ := hI.tp
    have hl := h1.length_eq
    have HI := Lib.hid hI
    clear hI
    by_cases hne : t1 = []
    · have e0 : hp.length = 0 := by rw [hl, hne]; rfl
      have E0 := Lib.hid e0
      have HT := Lib.hid hT
      have HNE := Lib.hid hne
      clear e0 hT hne hl h1 h2 h3
      go_wp2_with (go_at_call 22; (with_reducible refine (len_any HT.out).mono ?_); rintro e w' ⟨rfl, rfl⟩; rw [E0.out])
      go_ret
      exact ⟨_, rfl, HI.out.done (fun hc => hc.1 HNE.out)⟩
    · have h0 : 0 < hp.length := by rw [hl]; exact List.length_pos_iff.2 hne
      obtain ⟨g, cap, C, rfl, hH, _⟩ := hT.hp_ (by omega) h0
      obtain ⟨a0, -, -, -⟩ := hH.cells h0
      have hf := hH.fld
      have hr := h3.root_first h1 h2 hne
      have hle := hH.le
      have hx0 : (0 : Int) < hp.length := by omega
      obtain ⟨x, hx⟩ : ∃ x, x = nth_ hp 0 := ⟨_, rfl⟩
      rw [← hx] at a0 hr
      have HC := Lib.hid (take_tp hT h1 h2 h3 0 h0)
      have HT := Lib.hid hT
      have HX := Lib.hid hx
      have HR := Lib.hid hr
      have HNE := Lib.hid hne
      have hrl := rest_lt hne
      have hnl : t1.length ≤ 4096 := by omega
      clear hT hH h1 h2 h3 hx hr hne hl
      by_cases hd : x.at_ ≤ now
      · have f1 : decide (x.at_ ≤ now) = true := decide_eq_true hd
        have hfk : ∀ w : World, (Instr.field 57 (tmV x) 2).run Try.prog w = .ok (.int .i64 x.key) w := fun w => by kernel_rfl
        go_wp2_with (first
          | (go_at_call 22; (with_reducible refine (len_any HT.out).mono ?_); rintro e w' ⟨rfl, rfl⟩)
          | (go_at_call 30; (refine HC.out.mono ?_); rintro e w1 ⟨rfl, hP⟩; rw [← HX.out] at hP ⊢; have HP := Lib.hid hP; clear hP)
          | (at_builtin; refine wpList_append_row rfl (.tmp 20) (.tmp 24) 31 rfl w.heap.size 3 i3 (.int .i64 0) 1 8 Try.underlying31 hi3 hz30 hz31 hz32 rfl (by decide) (.slice ao ks.length bc) ks.length (ints ks) rfl ((owns_only HI.out.row HP.out.2 (fun k hk hF => by have := HI.out.old k hF; have := (ownsRow_lt HI.out.row k hk).1; omega)).alloc _) _ 1 1 [.int .i64 x.key] rfl rfl (fun _ => ⟨_, rfl, new_one _ _ _⟩) (fun e => by cases e) (one_int _ _) (by unfold maxLen; omega) (by omega) (by have := HI.out.only.size; have := HP.out.2.size; simp only [World.size_alloc]; omega) ?_))
        intro v2 w2 hown2 hon2 _ _
        obtain ⟨a2, k2, rfl, _, _, _, _⟩ := ownsRow_slice hown2
        have hst := HI.out.step ⟨HNE.out, by rw [← HR.out]; exact hd⟩ (by rw [← HR.out]; exact HP.out) (by rw [← HR.out]; exact hown2) hon2
        have HST := Lib.hid hst
        clear hst hown2 hon2
        go_wp2_with fail
        go_roundw
        case rel => exact ⟨_, _, HST.out⟩
        case measure => simp [lenOf]; omega
      · have f1 : decide (x.at_ ≤ now) = false := decide_eq_false hd
        go_wp2_with (first
          | (go_at_call 22; (with_reducible refine (len_any HT.out).mono ?_); rintro e w' ⟨rfl, rfl⟩))
        go_ret
        exact ⟨_, rfl, HI.out.done (fun hc => by have h2 := hc.2; rw [← HR.out] at h2; omega)⟩
end
end Go.Proofs.Ytbbihkddogbicaa
