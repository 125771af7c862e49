/- timers.slot. -/
import Derived.Test.YtbbihkddogbicaaWalks5
import Derived.Deep.Cut
namespace Go.Proofs.Ytbbihkddogbicaa
open Go.RowKit
set_option linter.unusedVariables false
set_option linter.unusedSimpArgs false

theorem Try.info3 : (Try.prog.info? 3).map (fun i => (i.zero, i.size, i.bytes)) = some (some (.int .i64 0), 1, 8) := by kernel_rfl
theorem Try.info4 : (Try.prog.info? 4).map (fun i => (i.zero, i.size, i.bytes)) = some (some (.bool false), 1, 1) := by kernel_rfl
theorem Try.info57 : (Try.prog.info? 57).map (fun i => (i.zero, i.size, i.bytes)) = some (some (.agg #[.int .i64 0, .int .i64 0, .int .i64 0, .int .i64 0]), 4, 32) := by kernel_rfl

theorem one_bool (b : Bool) : ∀ u ∈ [Value.bool b], u.oneCell' = true := by
  intro u hu
  simp only [List.mem_singleton] at hu
  subst hu
  rfl

section
variable {F : Nat → Prop} {w : World} {lo p most : Nat} {hp : List Tm} {vh : Value} {used : List Nat} {vu : Value} {taken : List Bool} {vt : Value} {set : Nat}

def SlotPost (F : Nat → Prop) (w w' : World) (lo p most : Nat) (hp : List Tm) (vh : Value) (used : List Nat) (taken : List Bool) (set : Nat) : Prop :=
  ∃ vu' vt', Tw (More F w w') w' lo p most hp vh used vu' taken vt' set ∧ Only F w w'

theorem More.self (F : Nat → Prop) (w : World) : ∀ k, F k → More F w w k := fun k h => .inl h
theorem Tw.foots {F' : Nat → Prop} (h : Tw F w lo p most hp vh used vu taken vt set) (hF : ∀ k, F k → F' k) (hl : ∀ k, F' k → lo ≤ k ∧ k < w.heap.size) : Tw F' w lo p most hp vh used vu taken vt set :=
  ⟨h.blk, h.heap, h.used_, h.taken_, fun k hk => hF k (h.foot k hk), hl⟩
theorem Tw.more (h : Tw F w lo p most hp vh used vu taken vt set) : Tw (More F w w) w lo p most hp vh used vu taken vt set :=
  h.foots (fun k hk => .inl hk) (fun k hk => by rcases hk with hk | hk; exact h.lt k hk; omega)

theorem slot_old (h : Tw F w lo p most hp vh used vu taken vt set) (hm : taken.length ≤ 4096) (i : Nat) (hi : indexF taken = i) :
    Calls Try.prog 25 #[.pointer (some ⟨p, 0, none⟩)] w fun e w' => e = .returned (.int .i64 i) ∧ w = w' := by
  have c3 := h.blk.cell 3 _ rfl
  have H := Lib.hid h
  have HI := Lib.hid hi
  clear h hi
  go_enter Try.func25, Try.ntmps25
  go_wp2_with (go_at_call 34; (with_reducible refine (index_any H.out.taken_ hm).mono ?_); rintro e w' ⟨rfl, rfl⟩; rw [HI.out])
  go_ret
  exact ⟨rfl, rfl⟩

set_option maxHeartbeats 800000 in
theorem slot_new (h : Tw F w lo p most hp vh used vu taken vt set) (hm : taken.length ≤ 4096) (hu : used.length ≤ 4096) (hi : indexF taken = -1) :
    Calls Try.prog 25 #[.pointer (some ⟨p, 0, none⟩)] w fun e w' => e = .returned (.int .i64 taken.length) ∧ SlotPost F w w' lo p most hp vh (used ++ [0]) (taken ++ [false]) set := by
  obtain ⟨i3, hi3, hz30, hz31, hz32⟩ := info_parts Try.info3
  obtain ⟨i4, hi4, hz40, hz41, hz42⟩ := info_parts Try.info4
  obtain ⟨ao, cap, rfl, hlc, hcm, hnil, hsome⟩ := ownsRow_slice h.taken_
  obtain ⟨au, capu, rfl, hlcu, hcmu, hnilu, hsomeu⟩ := ownsRow_slice h.used_
  have c3 := h.blk.cell 3 _ rfl
  have c2 := h.blk.cell 2 _ rfl
  have H := Lib.hid h
  have HI := Lib.hid hi
  clear h hi hnil hsome hnilu hsomeu
  go_enter Try.func25, Try.ntmps25
  go_wp2_with (first
    | (go_at_call 34; (with_reducible refine (index_any H.out.taken_ hm).mono ?_); rintro e w' ⟨rfl, rfl⟩; rw [HI.out])
    | (at_builtin; refine wpList_append_row rfl (.tmp 20) (.tmp 21) 53 rfl lo 4 i4 (.bool false) 1 1 Try.underlying53 hi4 hz40 hz41 hz42 rfl (by decide) _ taken.length (taken.map Value.bool) rfl (owns_only H.out.taken_ ((Only.refl (fun _ => False) w).alloc _) (fun _ _ => id)) _ 1 1 [.bool false] rfl rfl (fun _ => ⟨_, rfl, new_one _ _ _⟩) (fun e => by cases e) (one_bool _) (by unfold maxLen; omega) (by omega) (by have := (H.out.lt p (H.out.foot p (.inl rfl))); simp only [World.size_alloc]; omega) ?_))
  intro v2 w2 hown2 hon2 hat2 _
  obtain ⟨a2, k2, rfl, _, _, _, _⟩ := ownsRow_slice hown2
  have T2 := H.out.app_taken hown2 hon2 hat2
  have hb2 := (H.out.blk.alloc (.cells #[.bool false] 4)).only hon2 (fun e => H.out.nt e)
  have d3 := hb2.cell 3 _ rfl
  have f3 := hb2.free 3
  have s1 := hon2.size
  have S2 := Lib.hid (show (w2.setCell ⟨p, 3, none⟩ (.slice a2 (taken.length + 1) k2)).heap.size = w2.heap.size by simp [World.setCell])
  go_upto_region 5 with fail
  generalize w2.setCell ⟨p, 3, none⟩ (.slice a2 (taken.length + 1) k2) = w3 at T2 S2 ⊢
  simp only [World.size_alloc] at s1
  have e2 := T2.1.blk.cell 2 _ rfl
  have HT2 := Lib.hid T2
  clear T2 hb2 d3 f3 c2 c3 hown2 hon2 hat2
  go_wp2_with (first
    | (at_builtin; refine wpList_append_row rfl (.tmp 29) (.tmp 30) 31 rfl lo 3 i3 (.int .i64 0) 1 8 Try.underlying31 hi3 hz30 hz31 hz32 rfl (by decide) _ used.length (used.map fun n => Value.int .i64 (n : Nat)) rfl (owns_only HT2.out.1.used_ ((Only.refl (fun _ => False) w3).alloc _) (fun _ _ => id)) _ 1 1 [.int .i64 0] rfl rfl (fun _ => ⟨_, rfl, new_one _ _ _⟩) (fun e => by cases e) (one_int _ _) (by unfold maxLen; omega) (by omega) (by have := (HT2.out.1.lt p (HT2.out.1.foot p (.inl rfl))); simp only [World.size_alloc]; omega) ?_))
  intro v4 w4 hown4 hon4 hat4 _
  obtain ⟨a4, k4, rfl, _, _, _, _⟩ := ownsRow_slice hown4
  have T4 := HT2.out.1.app_used hown4 hon4 hat4
  have hb4 := (HT2.out.1.blk.alloc (.cells #[.int .i64 0] 3)).only hon4 (fun e => HT2.out.1.nu e)
  have d2 := hb4.cell 2 _ rfl
  have f2 := hb4.free 2
  have s4 := hon4.size
  simp only [World.size_alloc] at s4
  have HT4 := Lib.hid T4
  clear hb4 hown4 hon4 hat4 T4
  go_wp2_with fail
  go_ret
  have z2 := S2.out
  have z5 : (w4.setCell ⟨p, 2, none⟩ (.slice a4 (used.length + 1) k4)).heap.size = w4.heap.size := by simp [World.setCell]
  refine ⟨rfl, _, _, HT4.out.1.foots (fun k hk => ?_) (fun k hk => ?_), HT2.out.2.trans HT4.out.2 (fun k hk1 hk => ?_)⟩
  · rcases hk with (hk | hk) | hk
    · exact .inl hk
    · exact .inr (by omega)
    · exact .inr (by omega)
  · rcases hk with hk | hk
    · have := H.out.lt k hk; omega
    · have := (H.out.lt p (H.out.foot p (.inl rfl))); omega
  · rcases hk with hk | hk
    · exact hk
    · omega
end
end Go.Proofs.Ytbbihkddogbicaa
