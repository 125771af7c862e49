/- The reference's timers: Fire. -/
import Derived.Test.YtbbihkddogbicaaRef3
namespace Go.Proofs.Ytbbihkddogbicaa
open Go.RowKit
set_option linter.unusedVariables false
set_option linter.unusedSimpArgs false

section
variable {F : Nat → Prop} {w : World} {lo p most : Nat} {ts : List Tm} {used : List Nat} {set : Nat}

/-- The reference's timers at block p hold ts. -/
def TR (F : Nat → Prop) (w : World) (lo p most : Nat) (ts : List Tm) (used : List Nat) (set : Nat) : Prop :=
  ∃ vl vg, Tr F w lo p most ts vl used vg ∧ Ok most ts used set

theorem TR.ok (h : TR F w lo p most ts used set) : Ok most ts used set := by obtain ⟨_, _, _, h⟩ := h; exact h
theorem TR.lt (h : TR F w lo p most ts used set) : ∀ k, F k → lo ≤ k ∧ k < w.heap.size := by obtain ⟨_, _, h, _⟩ := h; exact h.lt
theorem TR.at_p (h : TR F w lo p most ts used set) : F p := by obtain ⟨_, _, h, _⟩ := h; exact h.foot p (.inl rfl)
theorem TR.only {S : Nat → Prop} {w' : World} (h : TR F w lo p most ts used set) (ho : Only S w w') (hd : ∀ k, F k → ¬ S k) : TR F w' lo p most ts used set := by
  obtain ⟨vl, vg, hT, h3⟩ := h
  exact ⟨vl, vg, hT.only ho hd, h3⟩
theorem TR.foots {F' : Nat → Prop} (h : TR F w lo p most ts used set) (hF : ∀ k, F k → F' k) (hl : ∀ k, F' k → lo ≤ k ∧ k < w.heap.size) : TR F' w lo p most ts used set := by
  obtain ⟨vl, vg, hT, h3⟩ := h
  exact ⟨vl, vg, hT.foots hF hl, h3⟩

structure RFirePost (F : Nat → Prop) (w w' : World) (lo p most : Nat) (ts : List Tm) (used : List Nat) (set : Nat) (now : Int) (v : Value) : Prop where
  row : Ints w' w.heap.size v ((fire now ts).map (·.key))
  tr : TR (More F w w') w' lo p most (stay now ts) used set
  only : Only F w w'
  apart : ∀ k, v.ownBlock = some k → w.heap.size ≤ k

/-- What stands ahead of a round: G: where the timers lie now. -/
structure RFireI (F G : Nat → Prop) (w wr : World) (lo p most : Nat) (ts : List Tm) (used : List Nat) (set : Nat) (now : Int) (v : Value) (ks : List Int) (t1 : List Tm) : Prop where
  row : Ints wr w.heap.size v ks
  tr : TR G wr lo p most t1 used set
  only : Only F w wr
  keys : (fire now ts).map (·.key) = ks ++ (fire now t1).map (·.key)
  left : stay now ts = stay now t1
  len : ks.length + t1.length ≤ 4096
  old : ∀ k, F k → k < w.heap.size
  new_ : ∀ k, G k → F k ∨ w.heap.size ≤ k
  free : ∀ k, v.ownBlock = some k → ¬ G k
  base : (∀ k, F k → lo ≤ k) ∧ lo ≤ w.heap.size

theorem RFireI.done {G : Nat → Prop} {now : Int} {wr : World} {v : Value} {ks : List Int} {t1 : List Tm} (h : RFireI F G w wr lo p most ts used set now v ks t1) (hs : ¬ (t1 ≠ [] ∧ (firstL t1).at_ ≤ now)) {w' : World} (ho : Only (fun _ => False) wr w') : RFirePost F w w' lo p most ts used set now v := by
  obtain ⟨e1, e2⟩ := fire_stop hs
  have hz := ho.size
  have hz2 := h.only.size
  refine ⟨?_, ?_, h.only.trans ho (fun _ _ h => h.elim), fun k hk => (ownsRow_lt h.row k hk).1⟩
  · rw [h.keys, e1, List.map_nil, List.append_nil]
    exact owns_only h.row ho (fun _ _ => id)
  · rw [h.left, e2]
    refine (h.tr.only ho (fun _ _ => id)).foots (fun k hk => ?_) (fun k hk => ?_)
    · rcases h.new_ k hk with h1 | h1
      · exact .inl h1
      · have := (h.tr.lt k hk).2
        exact .inr (by omega)
    · rcases hk with hk | hk
      · have := h.base.1 k hk
        have := h.old k hk
        omega
      · have := h.base.2
        omega
theorem RFireI.mid {G : Nat → Prop} {now : Int} {wr w3 : World} {v : Value} {ks : List Int} {t1 : List Tm} (h : RFireI F G w wr lo p most ts used set now v ks t1) (ho : Only (fun k => v.ownBlock = some k) wr w3) : TR G w3 lo p most t1 used set :=
  h.tr.only ho (fun k hk e => h.free k e hk)
theorem RFireI.step {G : Nat → Prop} {now : Int} {wr w3 w4 : World} {v v2 : Value} {ks : List Int} {t1 : List Tm} (h : RFireI F G w wr lo p most ts used set now v ks t1) (hs : t1 ≠ [] ∧ (firstL t1).at_ ≤ now) (ho : Only (fun k => v.ownBlock = some k) wr w3)
    (hown : w3.ownsRow w.heap.size 3 1 v2 (ks.length + 1) (ints ks ++ [.int .i64 (firstL t1).key])) (hv : ∀ k, v2.ownBlock = some k → v.ownBlock = some k ∨ wr.heap.size ≤ k) (hP : RPost G w3 w4 lo p most (without t1 (firstL t1).handle) used) :
    RFireI F (More G w3 w4) w w4 lo p most ts used set now v2 (ks ++ [(firstL t1).key]) (rest t1 (firstL t1)) := by
  obtain ⟨e1, e2⟩ := fire_step hs
  have hl := rest_lt hs.1
  have hf2 : ∀ k, v2.ownBlock = some k → ¬ G k := fun k hk hG => by
    rcases hv k hk with h1 | h1
    · exact h.free k h1 hG
    · have := (h.tr.lt k hG).2; omega
  rw [without_eq] at hP
  obtain ⟨vl', vg', hT, hO⟩ := hP
  have z1 := h.only.size
  have z2 := ho.size
  refine ⟨?_, ⟨vl', vg', hT, h.tr.ok.filter _⟩, (h.only.trans ho (fun k hk e => by have := (ownsRow_lt h.row k e).1; omega)).trans hO (fun k hk hG => ?_), ?_, by rw [h.left, e2], ?_, h.old, fun k hk => ?_, fun k hk hG => ?_, h.base⟩
  · show w4.ownsRow _ _ _ _ _ _
    rw [List.length_append, List.length_singleton]
    unfold ints at hown ⊢
    rw [List.map_append]
    exact owns_only hown hO (fun k hk => hf2 k hk)
  · rcases h.new_ k hG with h1 | h1
    · exact h1
    · omega
  · rw [h.keys, e1]
    simp
  · have := h.len
    rw [List.length_append, List.length_singleton]
    omega
  · rcases hk with hk | hk
    · exact h.new_ k hk
    · exact .inr (by omega)
  · rcases hG with hG | hG
    · exact hf2 k hk hG
    · have := (ownsRow_lt hown k hk).2; omega

set_option maxRecDepth 100000 in
set_option maxHeartbeats 1600000 in
theorem tr_fire (h : TR F w lo p most ts used set) (now : Int) :
    Calls Try.prog 19 #[.pointer (some ⟨p, 0, none⟩), .int .i64 now] w fun e w' => ∃ v, e = .returned v ∧ RFirePost F w w' lo p most ts used set now v := by
  obtain ⟨i3, hi3, hz30, hz31, hz32⟩ := info_parts Try.info3
  have hI0 : RFireI F F w w lo p most ts used set now (.slice none 0 0) [] ts :=
    ⟨World.ownsRow_nil _ _ _ _, h, Only.refl _ _, rfl, rfl, by have := h.ok.len; have := h.ok.most_; simp; omega, fun k hk => (h.lt k hk).2, fun k hk => .inl hk, (fun k hk => by cases hk), ⟨fun k hk => (h.lt k hk).1, by have := h.lt p h.at_p; omega⟩⟩
  have HI0 := Lib.hid hI0
  clear hI0 h
  go_enter Try.func19, Try.ntmps19
  go_wp2
  go_loopw [5, 6] (fun v _ wr => ∃ (G : Nat → Prop) (ks : List Int) (t1 : List Tm), RFireI F G w wr lo p most ts used set now v ks t1) (fun v _ _ => 4096 - lenOf v)
  case atStart => exact ⟨F, [], ts, HI0.out⟩
  case round =>
    obtain ⟨G, ks, t1, hI⟩ := hrel
    obtain ⟨ao, bc, rfl, hbc1, hbc2, _, _⟩ := ownsRow_slice hI.row
    have hlen := hI.len
    obtain ⟨vl, vg, hT, h3⟩ := hI.tr
    obtain ⟨al, cl, rfl, hl1, hl2, _, _⟩ := ownsRow_slice hT.row
    have c1 := hT.blk.cell 1 _ rfl
    have HI := Lib.hid hI
    clear hI
    by_cases hne : t1 = []
    · subst hne
      simp only [List.length_nil] at c1
      clear hT h3
      go_wp2_with fail
      go_ret
      exact ⟨_, rfl, HI.out.done (fun hc => hc.1 rfl) (Only.refl _ _)⟩
    · have h0 : 0 < t1.length := List.length_pos_iff.2 hne
      obtain ⟨x, hx⟩ : ∃ x, x = firstL t1 := ⟨_, rfl⟩
      have hfa : ∀ w : World, (Instr.field 60 (rtV x) 0).run Try.prog w = .ok (.int .i64 x.at_) w := fun w => by kernel_rfl
      have HT := Lib.hid hT
      have HX := Lib.hid hx
      have HNE := Lib.hid hne
      have hrl := rest_lt hne
      have hnl : t1.length ≤ 4096 := by omega
      have hx0 : (0 : Int) < t1.length := by omega
      clear hT h3 hx hne
      by_cases hd : x.at_ ≤ now
      · have f1 : decide (x.at_ ≤ now) = true := decide_eq_true hd
        go_upto_region 3 with (go_at_call 31; (with_reducible refine (r_first HT.out hnl h0).mono ?_); rintro e w1 ⟨rfl, hO1⟩; rw [← HX.out]; have HO1 := Lib.hid hO1; clear hO1)
        have HT1 := Lib.hid (HT.out.only HO1.out (fun _ _ => id))
        go_upto_region 4 with (go_at_call 31; (with_reducible refine (r_first HT1.out hnl h0).mono ?_); rintro e w2 ⟨rfl, hO2⟩; rw [← HX.out]; have HO2 := Lib.hid hO2; clear hO2)
        have hb : Blk (w2.alloc (Obj.cells #[.int .i64 x.at_, .int .i64 x.key, .int .i64 x.handle] 60)) w2.heap.size [.int .i64 x.at_, .int .i64 x.key, .int .i64 x.handle] 60 := Blk.new w2 [.int .i64 x.at_, .int .i64 x.key, .int .i64 x.handle] 60
        have o2 : Only (fun k => (Value.slice ao ks.length bc).ownBlock = some k) wr (w2.alloc (Obj.cells #[.int .i64 x.at_, .int .i64 x.key, .int .i64 x.handle] 60)) := ((HO1.out.trans HO2.out (fun _ _ h => h)).alloc _).mono (fun _ _ h => h.elim)
        have hs2 : wr.heap.size ≤ w2.heap.size := Nat.le_trans HO1.out.size HO2.out.size
        have HB := Lib.hid hb
        have O2 := Lib.hid o2
        have S2 := Lib.hid (show (w2.alloc (Obj.cells #[.int .i64 x.at_, .int .i64 x.key, .int .i64 x.handle] 60)).heap.size = w2.heap.size + 1 by simp)
        have hr3 : (w2.alloc (Obj.cells #[.int .i64 x.at_, .int .i64 x.key, .int .i64 x.handle] 60)).ownsRow w.heap.size 3 1 (.slice ao ks.length bc) ks.length (ints ks) := owns_only HI.out.row ((HO1.out.trans HO2.out (fun _ _ h => h)).alloc _) (fun _ _ => id)
        have HR3 := Lib.hid hr3
        clear hb o2 hr3
        obtain ⟨r1, hr1⟩ : ∃ r, r = w2.heap.size := ⟨_, rfl⟩
        rw [← hr1] at HB ⊢
        have hr2 : wr.heap.size ≤ r1 := by omega
        have HR1 := Lib.hid hr1
        clear hr1 hs2
        generalize w2.alloc (Obj.cells #[.int .i64 x.at_, .int .i64 x.key, .int .i64 x.handle] 60) = w3 at HB O2 S2 HR3 ⊢
        have k1 := HB.out.cell 1 _ rfl
        have k2 := HB.out.cell 2 _ rfl
        go_upto_region 5 with (first
          | (at_builtin; refine wpList_append_row rfl (.tmp 22) (.tmp 25) 31 rfl w.heap.size 3 i3 (.int .i64 0) 1 8 Try.underlying31 hi3 hz30 hz31 hz32 rfl (by decide) (.slice ao ks.length bc) ks.length (ints ks) rfl ((HR3.out).alloc _) _ 1 1 [.int .i64 x.key] rfl rfl (fun _ => ⟨_, rfl, new_one _ _ _⟩) (fun e => by cases e) (one_int _ _) (by unfold maxLen; omega) (by omega) (by have := HI.out.only.size; have := O2.out.size; simp only [World.size_alloc]; omega) ?_))
        intro v2 w4 hown4 hon4 hat4 _
        obtain ⟨a4, k4, rfl, _, _, _, _⟩ := ownsRow_slice hown4
        have hb4 := (HB.out.alloc (.cells #[.int .i64 x.key] 3)).only hon4 (fun e => ownsRow_ne HR3.out HB.out (by decide) e)
        have d2 := hb4.cell 2 _ rfl
        have o4 := (O2.out.alloc (.cells #[.int .i64 x.key] 3)).trans hon4 (fun _ _ h => h)
        have hv4 : ∀ k, (Value.slice a4 (ks.length + 1) k4).ownBlock = some k → (Value.slice ao ks.length bc).ownBlock = some k ∨ wr.heap.size ≤ k := fun k hk => by
          rcases hat4 with e | e
          · exact .inl (by rw [← e]; exact hk)
          · rw [e] at hk
            injection hk with hk
            have := O2.out.size
            exact .inr (by omega)
        have HO4 := Lib.hid o4
        have HW4 := Lib.hid hown4
        have HV4 := Lib.hid hv4
        clear hown4 hon4 hat4 hb4 o4 hv4 k1 k2
        go_upto_region 5 with fail
        obtain ⟨vl4, vg4, hT4, -⟩ := HI.out.mid HO4.out
        have HT4 := Lib.hid hT4
        clear hT4
        go_wp2_with (go_at_call 16; (with_reducible refine (r_cancel HT4.out hnl x.handle).mono ?_); rintro e w5 ⟨rfl, hP⟩; have HP := Lib.hid hP; clear hP)
        have hst := HI.out.step ⟨HNE.out, by rw [← HX.out]; exact hd⟩ HO4.out (by rw [← HX.out]; exact HW4.out) HV4.out (by rw [← HX.out]; exact HP.out)
        have HST := Lib.hid hst
        clear hst
        go_roundw
        case rel => exact ⟨_, _, _, HST.out⟩
        case measure => simp [lenOf]; omega
      · have f1 : decide (x.at_ ≤ now) = false := decide_eq_false hd
        go_wp2_with (first
          | (go_at_call 31; (with_reducible refine (r_first HT.out hnl h0).mono ?_); rintro e w1 ⟨rfl, hO1⟩; rw [← HX.out]; have HO1 := Lib.hid hO1; clear hO1))
        go_ret
        exact ⟨_, rfl, HI.out.done (fun hc => by have h2 := hc.2; rw [← HX.out] at h2; omega) HO1.out⟩
end
end Go.Proofs.Ytbbihkddogbicaa
