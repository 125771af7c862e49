/- The reference's timers: slot. -/
import Derived.Test.YtbbihkddogbicaaRef4
namespace Go.Proofs.Ytbbihkddogbicaa
open Go.RowKit
set_option linter.unusedVariables false
set_option linter.unusedSimpArgs false

theorem busy_take (ts : List Tm) (i j : Nat) (hj : j < ts.length) : busy (ts.take (j + 1)) i = (busy (ts.take j) i || (nth_ ts j).slot == i) := by
  unfold busy
  rw [List.take_succ_eq_append_getElem hj, List.any_append, nth_eq hj]
  simp

section
variable {F : Nat → Prop} {w : World} {lo p most : Nat} {ts : List Tm} {vl : Value} {used : List Nat} {vg : Value}

/-- t.Gens = append(t.Gens, 0) -/
theorem Tr.app_gens (h : Tr F w lo p most ts vl used vg) {o : Obj} {w2 : World} {v2 : Value} (hown : w2.ownsRow lo 3 1 v2 (used.length + 1) ((used.map fun n => Value.int .i64 (n : Nat)) ++ [.int .i64 0])) (hon : Only (fun i => vg.ownBlock = some i) (w.alloc o) w2)
    (hat : v2.ownBlock = vg.ownBlock ∨ v2.ownBlock = some (w.heap.size + 1)) :
    Tr (More F w w2) (w2.setCell ⟨p, 2, none⟩ v2) lo p most ts vl (used ++ [0]) v2 ∧ Only F w (w2.setCell ⟨p, 2, none⟩ v2) := by
  have hp_ := h.blk.lt
  have ha : Only (fun i => vg.ownBlock = some i) w w2 := ((Only.refl _ w).alloc o).trans hon (fun _ _ h => h)
  have hs := hon.size
  simp only [World.size_alloc] at hs
  have hst : Only (fun k => k = p) w2 (w2.setCell ⟨p, 2, none⟩ v2) := (Only.refl (fun k => k = p) w2).setCell (p := ⟨p, 2, none⟩) (fun _ => rfl) _
  have hn2 : v2.ownBlock ≠ some p := by
    rcases hat with e | e
    · rw [e]; exact h.ng
    · rw [e]; simp only [ne_eq, Option.some.injEq]; omega
  have hl2 := ownsRow_lt hown
  refine ⟨⟨(h.blk.only ha (fun e => h.ng e)).set 2 v2, ?_, ?_, fun k hk => ?_, fun k hk => ?_⟩, ?_⟩
  · exact owns_only (owns_only h.row ha (fun k hk e => own_own_ne h.row h.gens (by decide) k hk e)) hst (fun k hk e => h.nl (by rw [hk, e]))
  · rw [List.length_append, List.length_singleton, List.map_append]
    exact owns_only hown hst (fun k hk e => hn2 (by rw [hk, e]))
  · rcases hk with hk | hk | hk
    · exact .inl (h.foot k (.inl hk))
    · exact .inl (h.foot k (.inr (.inl hk)))
    · rcases hat with e | e
      · exact .inl (h.foot k (.inr (.inr (by rw [← e]; exact hk))))
      · have := (hl2 k hk).2
        rw [e] at hk
        injection hk with hk
        exact .inr (by omega)
  · have hz := hst.size
    rcases hk with hk | hk
    · have := h.lt k hk; omega
    · have := (h.lt p (h.foot p (.inl rfl))).1; omega
  · exact (ha.mono (fun i _ e => h.foot i (.inr (.inr e)))).setCell (p := ⟨p, 2, none⟩) (fun _ => h.foot p (.inl rfl)) _

theorem Tr.mores (h : Tr F w lo p most ts vl used vg) {w' : World} (ho : Only (fun _ => False) w w') : Tr (More F w w') w' lo p most ts vl used vg := by
  have h2 := h.only ho (fun _ _ => id)
  refine h2.foots (fun k hk => .inl hk) (fun k hk => ?_)
  rcases hk with hk | hk
  · exact h2.lt k hk
  · have := h.lt p (h.foot p (.inl rfl)); omega

set_option maxRecDepth 100000 in
set_option maxHeartbeats 1600000 in
theorem r_slot (h : Tr F w lo p most ts vl used vg) (hm : ts.length ≤ 4096) (hu : used.length ≤ 4096) (hsl : ∀ t ∈ ts, t.slot < 4096) (hag : ∀ t ∈ ts, t.age ≤ 1125899906842624) :
    Calls Try.prog 28 #[.pointer (some ⟨p, 0, none⟩)] w fun e w' => e = .returned (.int .i64 (slotOf ts used.length)) ∧ RPost F w w' lo p most ts (usedX ts used) := by
  obtain ⟨i3, hi3, hz30, hz31, hz32⟩ := info_parts Try.info3
  obtain ⟨au, cu, rfl, hu1, hu2, _, _⟩ := ownsRow_slice h.gens
  obtain ⟨al, cl, rfl, hl1, hl2, _, _⟩ := ownsRow_slice h.row
  have c2 := h.blk.cell 2 _ rfl
  have c1 := h.blk.cell 1 _ rfl
  have H := Lib.hid h
  have HSL := Lib.hid hsl
  have HAG := Lib.hid hag
  have hpl := h.blk.lt
  clear h hsl hag
  go_enter Try.func28, Try.ntmps28
  go_wp2
  go_loopw [3, 4, 6, 12] (fun _ _ _ i wr => ∃ j : Nat, j ≤ used.length ∧ i = .int .i64 j ∧ Only (fun _ => False) w wr ∧ Hid (∀ k, k < j → busy ts k = true)) (fun _ _ _ i _ => used.length - (intOf i).toNat)
  case atStart => exact ⟨0, Nat.zero_le _, rfl, Only.refl _ _, fun k hk => absurd hk (Nat.not_lt_zero _)⟩
  case round =>
    obtain ⟨j, hj, rfl, hO, hB⟩ := hrel
    have d1 := (World.cell?_of_block (a := ⟨p, 1, none⟩) (hO.block p hpl id)).trans c1
    have HO := Lib.hid hO
    clear hO
    by_cases hlt : j < used.length
    · go_wp2
      obtain ⟨wo, rfl⟩ : ∃ wo : World, wo = wr := ⟨_, rfl⟩
      go_loopw [4, 6, 20] (fun f _ i wi => ∃ (q : Nat) (b : Bool), q ≤ ts.length ∧ i = .int .i64 q ∧ f = .bool b ∧ Only (fun _ => False) w wi ∧ Hid (b = !busy (ts.take q) j)) (fun _ _ i _ => ts.length - (intOf i).toNat)
      case atStart => exact ⟨0, true, Nat.zero_le _, rfl, rfl, HO.out, rfl⟩
      case round =>
        obtain ⟨q, b, hq, rfl, rfl, hO2, hb⟩ := hrel
        have HO2 := Lib.hid hO2
        clear hO2
        by_cases hqt : q < ts.length
        · obtain ⟨g, cap', e, _, _, a0, a1, a2⟩ := (H.out.only HO2.out (fun _ _ => id)).at_ hqt
          injection e with e1 _ e3
          subst e1 e3
          obtain ⟨x, hx⟩ : ∃ x, x = nth_ ts q := ⟨_, rfl⟩
          have hxm : x ∈ ts := by rw [hx]; exact nth_mem hqt
          rw [← hx] at a0 a1 a2
          have e4 : (x.handle : Int) % 4096 = (x.slot : Int) := by have := HSL.out x hxm; unfold Tm.handle; omega
          have hbt := busy_take ts j q hqt
          rw [← hx] at hbt
          have HBT := Lib.hid hbt
          have HX := Lib.hid hx
          clear hbt hx hxm
          cases b with
          | false =>
            have hbb : busy (ts.take q) j = true := by have := hb.out; simpa using this.symm
            have HBB := Lib.hid hbb
            clear hbb
            go_wp2
            go_roundw
            case rel => exact ⟨q + 1, false, by omega, by go_num, rfl, HO2.out.alloc _, by show _ = _; rw [HBT.out, HBB.out]; rfl⟩
            case measure => simp [intOf]; omega
          | true =>
            have hbb : busy (ts.take q) j = false := by have := hb.out; simpa using this.symm
            have HBB := Lib.hid hbb
            clear hbb
            by_cases hs : x.slot = j
            · have f1 : ((x.slot : Int) != (j : Int)) = false := by simp [bne, hs]
              have f2 : (x.slot != j) = false := by simp [bne, hs]
              have HS := Lib.hid hs
              clear hs
              go_wp2
              go_roundw
              case rel => exact ⟨q + 1, false, by omega, by go_num, rfl, HO2.out.alloc _, by show _ = _; rw [HBT.out, HBB.out, HS.out]; simp⟩
              case measure => simp [intOf]; omega
            · have f1 : ((x.slot : Int) != (j : Int)) = true := by simp [bne]; omega
              have f2 : (x.slot != j) = true := by simp [bne, hs]
              have HS := Lib.hid hs
              clear hs
              go_wp2
              go_roundw
              case rel => exact ⟨q + 1, true, by omega, by go_num, rfl, HO2.out.alloc _, by show _ = _; rw [HBT.out, HBB.out]; simp [HS.out]⟩
              case measure => simp [intOf]; omega
        · have hql : ts.take q = ts := List.take_of_length_le (by omega)
          rw [hql] at hb
          cases b with
          | true =>
            have hbb : busy ts j = false := by have := hb.out; simpa using this.symm
            have hsl : slotOf ts used.length = j := slotOf_eq hj hB.out (fun _ => hbb)
            have HSO := Lib.hid hsl
            clear hbb hsl hql
            go_wp2
            go_ret
            refine ⟨ret_int (by rw [HSO.out]), .slice al ts.length cl, .slice au used.length cu, ?_, HO2.out.mono (fun _ _ h => h.elim)⟩
            unfold usedX
            rw [if_pos (by rw [HSO.out]; exact hlt)]
            exact H.out.mores HO2.out
          | false =>
            have hbb : busy ts j = true := by have := hb.out; simpa using this.symm
            have hB2 : ∀ k, k < j + 1 → busy ts k = true := fun k hk => by
              rcases Nat.lt_or_ge k j with h1 | h1
              · exact hB.out k h1
              · rw [show k = j by omega]; exact hbb
            have HB2 := Lib.hid hB2
            clear hbb hB2 hql
            go_wp2
            go_roundw
            case rel => exact ⟨j + 1, by omega, by go_num, HO2.out, HB2⟩
            case measure => simp [intOf]; omega
    · have hsl : slotOf ts used.length = used.length := slotOf_eq (Nat.le_refl _) (fun k hk => hB.out k (by omega)) (fun h => absurd h (Nat.lt_irrefl _))
      have HSO := Lib.hid hsl
      clear hsl
      have HT := Lib.hid (H.out.only HO.out (fun _ _ => id))
      have d2 := HT.out.blk.cell 2 _ rfl
      have hlo := HT.out.lt p (HT.out.foot p (.inl rfl))
      go_upto_region 14 with (at_builtin; refine wpList_append_row rfl (.tmp 40) (.tmp 41) 31 rfl lo 3 i3 (.int .i64 0) 1 8 Try.underlying31 hi3 hz30 hz31 hz32 rfl (by decide) (.slice au used.length cu) used.length (used.map fun n => Value.int .i64 (n : Nat)) rfl (HT.out.gens.alloc _) _ 1 1 [.int .i64 0] rfl rfl (fun _ => ⟨_, rfl, new_one _ _ _⟩) (fun e => by cases e) (one_int _ _) (by unfold maxLen; omega) (by omega) (by simp only [World.size_alloc]; omega) ?_)
      intro v2 w2 hown2 hon2 hat2 _
      obtain ⟨a2, k2, rfl, _, _, _, _⟩ := ownsRow_slice hown2
      have t2 := HT.out.app_gens hown2 hon2 hat2
      have hb2 := (HT.out.blk.alloc (.cells #[.int .i64 0] 3)).only hon2 (fun e => HT.out.ng e)
      have d2' := hb2.cell 2 _ rfl
      have f2 := hb2.free 2
      have s2 := hon2.size
      have s0 := HO.out.size
      simp only [World.size_alloc] at s2
      have hz : (w2.setCell ⟨p, 2, none⟩ (.slice a2 (used.length + 1) k2)).heap.size = w2.heap.size := by simp [World.setCell]
      have S3 := Lib.hid hz
      go_upto_region 14 with fail
      generalize w2.setCell ⟨p, 2, none⟩ (.slice a2 (used.length + 1) k2) = w3 at t2 S3 ⊢
      have d3 := t2.1.blk.cell 2 _ rfl
      have T2 := Lib.hid t2
      clear t2 hb2 d2' f2 hown2 hon2 hat2 hz
      go_wp2_with fail
      go_ret
      refine ⟨ret_int (by rw [HSO.out]), .slice al ts.length cl, .slice a2 (used.length + 1) k2, ?_, (HO.out.mono (fun _ _ h => h.elim)).trans T2.out.2 (fun _ _ h => h)⟩
      unfold usedX
      rw [if_neg (by rw [HSO.out]; omega)]
      have z3 := S3.out
      refine T2.out.1.foots (fun k hk => ?_) (fun k hk => ?_)
      · rcases hk with hk | hk
        · exact .inl hk
        · exact .inr (by omega)
      · rcases hk with hk | hk
        · exact T2.out.1.lt k (.inl hk)
        · omega
end
end Go.Proofs.Ytbbihkddogbicaa
