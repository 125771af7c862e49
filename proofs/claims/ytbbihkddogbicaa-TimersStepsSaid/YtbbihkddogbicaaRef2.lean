/- The reference's timers: Cancel. -/
import Derived.Test.YtbbihkddogbicaaRef1
namespace Go.Proofs.Ytbbihkddogbicaa
open Go.RowKit
set_option linter.unusedVariables false
set_option linter.unusedSimpArgs false

theorem Try.info60 : (Try.prog.info? 60).map (fun i => (i.zero, i.size, i.bytes)) = some (some (.agg #[.int .i64 0, .int .i64 0, .int .i64 0]), 3, 24) := by kernel_rfl

theorem three_new (w : World) (a b c : Value) (t : TypeId) : ∀ j u, [a, b, c][j]? = some u → (w.alloc (.cells #[a, b, c] t)).cell? ((⟨w.heap.size, 0, none⟩ : Addr).add j) = some u := by
  intro j u hu
  rw [Go.WideShapes.add_plain, Nat.zero_add]
  have h := Blk.new w [a, b, c] t
  exact (h.cellAt j).trans hu
theorem three_new1 (w : World) (o : Obj) (a b c : Value) (t : TypeId) : ∀ j u, [a, b, c][j]? = some u → ((w.alloc o).alloc (.cells #[a, b, c] t)).cell? ((⟨w.heap.size + 1, 0, none⟩ : Addr).add j) = some u := by
  have h := three_new (w.alloc o) a b c t
  rw [World.size_alloc] at h
  exact h
theorem three_one (a b c : Int) : ∀ u ∈ [Value.int .i64 a, .int .i64 b, .int .i64 c], u.oneCell' = true := by
  intro u hu
  simp only [List.mem_cons, List.not_mem_nil, or_false] at hu
  rcases hu with rfl | rfl | rfl <;> rfl

theorem without_take (ts : List Tm) (hd : Int) (j : Nat) (hj : j < ts.length) : without (ts.take (j + 1)) hd = without (ts.take j) hd ++ if ((nth_ ts j).handle : Int) = hd then [] else [nth_ ts j] := by
  unfold without
  rw [List.take_succ_eq_append_getElem hj, List.filter_append, nth_eq hj]
  congr 1
  by_cases h : ((ts[j]).handle : Int) = hd
  · rw [if_pos h]; simp [h]
  · rw [if_neg h]; simp [h]
theorem without_len (ts : List Tm) (hd : Int) : (without ts hd).length ≤ ts.length := List.length_filter_le _ _
theorem without_has {ts : List Tm} {hd : Int} (h : has ts hd = true) : (without ts hd).length < ts.length := by
  obtain ⟨t, ht, e⟩ := has_iff.1 h
  exact List.length_filter_lt_length_iff_exists.2 ⟨t, ht, by simpa using e⟩

section
variable {F : Nat → Prop} {w : World} {lo p most : Nat} {ts : List Tm} {vl : Value} {used : List Nat} {vg : Value}

def RPost (F : Nat → Prop) (w w' : World) (lo p most : Nat) (ts : List Tm) (used : List Nat) : Prop :=
  ∃ vl' vg', Tr (More F w w') w' lo p most ts vl' used vg' ∧ Only F w w'

/-- t.L = out, a row that was made since. -/
theorem Tr.turn (h : Tr F w lo p most ts vl used vg) {wr : World} {v : Value} {ts' : List Tm} (ho : Only (fun _ => False) w wr) (hr : wr.ownsRow w.heap.size 60 3 v ts'.length (rtCells ts')) :
    RPost F w (wr.setCell ⟨p, 1, none⟩ v) lo p most ts' used := by
  have hT := h.only ho (fun _ _ => id)
  have hfp := h.foot p (.inl rfl)
  have hlt := h.lt p hfp
  have hst : Only (fun k => k = p) wr (wr.setCell ⟨p, 1, none⟩ v) := (Only.refl (fun k => k = p) wr).setCell (p := ⟨p, 1, none⟩) (fun _ => rfl) _
  have hvl := ownsRow_lt hr
  have hz : (wr.setCell ⟨p, 1, none⟩ v).heap.size = wr.heap.size := by simp [World.setCell]
  have hs := ho.size
  refine ⟨v, vg, ⟨hT.blk.set 1 v, ?_, owns_only hT.gens hst (fun k hk e => hT.ng (by rw [hk, e])), fun k hk => ?_, fun k hk => ?_⟩, ?_⟩
  · exact owns_only (ownsRow_lower hr (by omega)) hst (fun k hk e => by have := hvl k hk; omega)
  · rcases hk with hk | hk | hk
    · exact .inl (h.foot k (.inl hk))
    · have := hvl k hk
      exact .inr (by omega)
    · exact .inl (h.foot k (.inr (.inr hk)))
  · rcases hk with hk | hk
    · have := h.lt k hk; omega
    · omega
  · exact (ho.mono (fun _ _ h => h.elim)).trans hst (fun k _ e => by rw [e]; exact hfp)

set_option maxHeartbeats 800000 in
theorem r_cancel (h : Tr F w lo p most ts vl used vg) (hm : ts.length ≤ 4096) (hd : Int) :
    Calls Try.prog 16 #[.pointer (some ⟨p, 0, none⟩), .int .i64 hd] w fun e w' => e = .returned (.bool (has ts hd)) ∧ RPost F w w' lo p most (without ts hd) used := by
  obtain ⟨i60, hi60, hz0, hz1, hz2⟩ := info_parts Try.info60
  obtain ⟨ao, cap, rfl, hlc, hcm, _, _⟩ := ownsRow_slice h.row
  have c1 := h.blk.cell 1 _ rfl
  have H := Lib.hid h
  clear h
  go_enter Try.func16, Try.ntmps16
  go_wp2
  go_loopw [5, 7, 14] (fun v _ i wr => ∃ j : Nat, j ≤ ts.length ∧ i = .int .i64 j ∧ Only (fun _ => False) w wr ∧ wr.ownsRow w.heap.size 60 3 v (without (ts.take j) hd).length (rtCells (without (ts.take j) hd))) (fun _ _ i _ => ts.length - (intOf i).toNat)
  case atStart => exact ⟨0, Nat.zero_le _, rfl, Only.refl _ _, World.ownsRow_nil _ _ _ _⟩
  case round =>
    obtain ⟨j, hj, rfl, hO, hR⟩ := hrel
    obtain ⟨L, hL⟩ : ∃ L, L = without (ts.take j) hd := ⟨_, rfl⟩
    have hLl : L.length ≤ 4096 := by rw [hL]; have := without_len (ts.take j) hd; have := List.length_take_le j ts; omega
    rw [← hL] at hR
    obtain ⟨av, cv, rfl, hv1, hv2, _, _⟩ := ownsRow_slice hR
    have hsz := hO.size
    have HO := Lib.hid hO
    have HR := Lib.hid hR
    have HL := Lib.hid hL
    clear hO hR hL
    by_cases hlt : j < ts.length
    · obtain ⟨g, cap', e, _, _, a0, a1, a2⟩ := (H.out.only HO.out (fun _ _ => id)).at_ hlt
      injection e with e1 _ e3
      subst e1 e3
      obtain ⟨x, hx⟩ : ∃ x, x = nth_ ts j := ⟨_, rfl⟩
      rw [← hx] at a0 a1 a2
      have hwt := without_take ts hd j hlt
      rw [← HL.out, ← hx] at hwt
      by_cases heq : (x.handle : Int) = hd
      · have f1 : ((x.handle : Int) == hd) = true := beq_iff_eq.2 heq
        have f2 : ((x.handle : Int) != hd) = false := by simp [bne, f1]
        rw [if_pos heq, List.append_nil] at hwt
        have HW := Lib.hid hwt
        have HE := Lib.hid heq
        clear hwt hx heq
        go_wp2
        go_roundw
        case rel => exact ⟨j + 1, by omega, by go_num, HO.out.alloc _, by rw [HW.out]; exact HR.out.alloc _⟩
        case measure => simp [intOf]; omega
      · have f1 : ((x.handle : Int) == hd) = false := beq_eq_false_iff_ne.2 heq
        have f2 : ((x.handle : Int) != hd) = true := by simp [bne, f1]
        rw [if_neg heq] at hwt
        have HW := Lib.hid hwt
        clear hwt hx heq
        go_wp2_with (first
          | (at_builtin; refine wpList_append_row rfl (.tmp 22) (.tmp 24) 44 rfl w.heap.size 60 i60 _ 3 24 Try.underlying44 hi60 hz0 hz1 hz2 rfl (by decide) (.slice av L.length cv) L.length (rtCells L) rfl ((HR.out.alloc _).alloc _) _ 1 1 [.int .i64 x.at_, .int .i64 x.key, .int .i64 x.handle] rfl rfl (fun _ => ⟨_, rfl, three_new1 _ _ _ _ _ _⟩) (fun e => by cases e) (three_one _ _ _) (by unfold maxLen; omega) (by omega) (by simp only [World.size_alloc]; omega) ?_))
        intro v2 w2 hown2 hon2 _ _
        obtain ⟨a2, k2, rfl, _, _, _, _⟩ := ownsRow_slice hown2
        have ho2 := ((HO.out.alloc _).alloc _).trans hon2 (fun k hk e => by have := (ownsRow_lt HR.out k e).1; omega)
        have HOW := Lib.hid hown2
        have HO2 := Lib.hid ho2
        clear hown2 hon2 ho2
        go_wp2_with fail
        go_roundw
        case rel => exact ⟨j + 1, by omega, by go_num, HO2.out, by rw [HW.out, List.length_append, rtCells_append]; exact HOW.out⟩
        case measure => simp [intOf]; omega
    · have hjl : ts.take j = ts := List.take_of_length_le (by omega)
      rw [hjl] at HL
      have d1 := (World.cell?_of_block (a := ⟨p, 1, none⟩) (HO.out.block p H.out.blk.lt id)).trans c1
      have f1 := (H.out.only HO.out (fun _ _ => id)).blk.free 1
      have hpost := H.out.turn HO.out HR.out
      have HP := Lib.hid hpost
      clear hjl hpost
      by_cases hh : has ts hd = true
      · have hlt2 := without_has hh
        rw [← HL.out] at hlt2
        have g1 : decide (L.length < ts.length) = true := decide_eq_true hlt2
        have HH := Lib.hid hh
        clear hh
        go_wp2
        go_ret
        exact ⟨ret_bool (by rw [HH.out]), by rw [← HL.out]; exact HP.out⟩
      · have hh2 : has ts hd = false := by simpa using hh
        have hlt2 : ¬ L.length < ts.length := by rw [HL.out, without_none hh2]; omega
        have g1 : decide (L.length < ts.length) = false := decide_eq_false hlt2
        have HH := Lib.hid hh2
        clear hh hh2
        go_wp2
        go_ret
        exact ⟨ret_bool (by rw [HH.out]), by rw [← HL.out]; exact HP.out⟩
end
end Go.Proofs.Ytbbihkddogbicaa
