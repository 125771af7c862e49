/- slices.DeleteFunc at connections; cut. -/
import Derived.Test.YtmpcffkandmacaaWalks5
import Derived.Lib.SliceRun
import Derived.WalkSpells
namespace Go.Proofs.Ytmpcffkandmacaa
open Go.RowKit
set_option linter.unusedVariables false
set_option linter.unusedSimpArgs false

theorem only_setCells (b : Nat) : ∀ (vs : List Value) (o : Nat) (w : World), Only (fun k => k = b) w (w.setCells b o vs)
  | [], _, w => Only.refl _ w
  | v :: r, o, w => (only_p w b o v).trans (only_setCells b r (o + 1) _) (fun _ _ h => h)
theorem blk_setCells {b : Nat} {t : TypeId} : ∀ (vs : List Value) (o : Nat) (w : World) (cs : List Value), Blk w b cs t → ∃ cs', Blk (w.setCells b o vs) b cs' t ∧ cs'.length = cs.length ∧ ∀ i, i < o → cs'[i]? = cs[i]?
  | [], _, w, cs, h => ⟨cs, h, rfl, fun _ _ => rfl⟩
  | v :: r, o, w, cs, h => by
    obtain ⟨cs', h1, h2, h3⟩ := blk_setCells r (o + 1) _ _ (h.set o v)
    refine ⟨cs', h1, by rw [h2, List.length_set], fun i hi => ?_⟩
    rw [h3 i (by omega), List.getElem?_set_ne (by omega)]
theorem zero65 : ∀ w : World, (zeroValue 65).run Try.prog w = .ok (.pointer none) w := fun w => by kernel_rfl
theorem run_clear_ptrs {w : World} {g o n c : Nat} {cs : List Value} (h : Blk w g cs 65) (hn : 0 < n) (hl : o + n ≤ cs.length) :
    ∃ w', (∀ ty, (Builtin.clear_ #[61] ty #[.slice (some ⟨g, o, none⟩) n c]).run Try.prog w = .ok (.tuple #[]) w') ∧ Only (fun k => k = g) w w' ∧ ∃ cs', Blk w' g cs' 65 ∧ cs'.length = cs.length ∧ ∀ i, i < o → cs'[i]? = cs[i]? := by
  refine ⟨w.setCells g o (List.replicate n (.pointer none)), fun ty => ?_, only_setCells g _ o w, blk_setCells _ o w cs h⟩
  exact Lib.run_clear_slice (P := Try.prog) w 61 65 ty (.pointer none) Try.underlying61 zero65 rfl rfl g o n c hn (fun j hj => by rw [h.cellAt, List.getElem?_eq_getElem (by omega)]; rfl) (fun j hj => h.free _)

/-- From place i on each cell is the next one's: m times. -/
def shl (L : List Value) (i : Nat) : Nat → List Value
  | 0 => L
  | m + 1 => (shl L i m).set (i + m) (L.getD (i + m + 1) (.pointer none))
theorem shl_len (L : List Value) (i : Nat) : ∀ m, (shl L i m).length = L.length
  | 0 => rfl
  | m + 1 => by rw [shl, List.length_set, shl_len L i m]
theorem shl_get {L : List Value} {i : Nat} : ∀ {m : Nat}, i + m < L.length → ∀ k, (shl L i m)[k]? = if i ≤ k ∧ k < i + m then L[k + 1]? else L[k]?
  | 0, _, k => by rw [if_neg (by omega)]; rfl
  | m + 1, h, k => by
    have ih := shl_get (m := m) (L := L) (i := i) (by omega) k
    rw [shl, List.getElem?_set]
    by_cases hk : i + m = k
    · subst hk
      rw [if_pos rfl, if_pos (by rw [shl_len]; omega), if_pos (by omega), List.getD_eq_getElem?_getD, List.getElem?_eq_getElem (by omega)]
      rfl
    · rw [if_neg hk, ih]
      by_cases hr : i ≤ k ∧ k < i + m
      · rw [if_pos hr, if_pos (by omega)]
      · rw [if_neg hr, if_neg (by omega)]
theorem shl_erase {X : List (Nat × Cn)} {C : List Value} {i a : Nat} (hi : i < X.length) (ha : i + a + 1 = X.length) {cs : List Value} (hlen : cs.length = (ptrs X ++ C).length) (h : ∀ k, k < i + a → cs[k]? = (shl (ptrs X ++ C) i a)[k]?) :
    cs = ptrs (X.eraseIdx i) ++ cs.drop (i + a) := by
  have hl : (ptrs (X.eraseIdx i)).length = i + a := by rw [ptrs_len, List.length_eraseIdx, if_pos hi]; omega
  have e : cs.take (i + a) = ptrs (X.eraseIdx i) := by
    refine List.ext_getElem? fun k => ?_
    by_cases hk : k < i + a
    · rw [List.getElem?_take, if_pos hk, h k hk, shl_get (by rw [List.length_append, ptrs_len]; omega)]
      unfold ptrs
      rw [List.getElem?_map, List.getElem?_eraseIdx]
      by_cases hki : k < i
      · rw [if_neg (by omega), if_pos hki, List.getElem?_append_left (by rw [List.length_map]; omega), List.getElem?_map]
      · rw [if_pos (by omega), if_neg hki, List.getElem?_append_left (by rw [List.length_map]; omega), List.getElem?_map]
    · rw [List.getElem?_take, if_neg hk, List.getElem?_eq_none (by omega)]
  rw [← e, List.take_append_drop]

section
variable {w : World} {lo p : Nat} {P : Pp} {X : List (Nat × Cn)} {vl vw : Value}
/-- What stands ahead of a round. -/
structure DelI (w wr : World) (g : Nat) (X : List (Nat × Cn)) (C : List Value) (i m : Nat) : Prop where
  blk : Blk wr g (shl (ptrs X ++ C) i m) 65
  only : Only (fun k => k = g) w wr
  lt : i + m < X.length
set_option maxRecDepth 100000 in
set_option maxHeartbeats 1600000 in
theorem del_any {v : Value} (hr : w.ownsRow lo 65 1 v X.length (ptrs X)) (hcn : ∀ x ∈ X, Blk w x.1 (cnC x.2) 71) (hne : ∀ (i j : Nat) (x y : Nat × Cn), X[i]? = some x → X[j]? = some y → x.1 = y.1 → i = j)
    {i b gs : Nat} {c : Cn} (hi : X[i]? = some (b, c)) (hgs : Blk w gs [ptr b] 65) (hgv : v.ownBlock ≠ some gs) (hl64 : X.length ≤ 64) :
    Calls Try.prog 53 #[v, .func (.func 54) #[] #[ptr gs]] w fun e w' => ∃ v', e = .returned v' ∧ w'.ownsRow lo 65 1 v' (X.eraseIdx i).length (ptrs (X.eraseIdx i)) ∧ v'.ownBlock = v.ownBlock ∧ Only (fun k => v.ownBlock = some k) w w' := by
  obtain ⟨hix, hie⟩ := List.getElem?_eq_some_iff.1 hi
  have hbb := hcn _ (List.mem_of_getElem? hi)
  obtain ⟨g, cap, C, rfl, hlo, hb, hc1, hc2, hc3⟩ := ownsRow_blk hr (by omega)
  have hgg : gs ≠ g := fun e => hgv (by rw [e]; rfl)
  obtain ⟨n, hn⟩ : ∃ n, n = X.length := ⟨_, rfl⟩
  have hidx := idxF54 (lb := ptr gs) (pRow_of hr) (fun x => decide (x.1 = b)) (fun w' hd x hx => clos54 ((hcn x hx).only (hd.only (fun _ => False)) (fun h => h)) (hbb.only (hd.only (fun _ => False)) (fun h => h)) ((hgs.only (hd.only (fun _ => False)) (fun h => h)).cell 0 _ rfl) ((hgs.only (hd.only (fun _ => False)) (fun h => h)).lt))
  have hfi : X.findIdx? (fun x => decide (x.1 = b)) = some i := by
    rw [List.findIdx?_eq_some_iff_getElem]
    refine ⟨hix, by rw [hie]; simp, fun k hk he => ?_⟩
    have := hne k i X[k] (b, c) (List.getElem?_eq_getElem _) hi (by simpa using he)
    omega
  rw [hfi] at hidx
  simp only [idxV] at hidx
  rw [← hn] at hidx hc1 hl64 ⊢
  have hcm : cap ≤ 9223372036854775807 := by unfold maxLen at hc2; omega
  have HX := Lib.hid hidx
  have HN := Lib.hid hn
  have HI0 := Lib.hid (show ∀ w1, Drawn w w1 → DelI w w1 g X C i 0 from fun w1 hd => ⟨hb.only (hd.only (fun _ => False)) (fun h => h), hd.only _, by omega⟩)
  have HG := Lib.hid hgs
  have HGG := Lib.hid hgg
  have HCN := Lib.hid hcn
  have HBB := Lib.hid hbb
  have HNE := Lib.hid hne
  have HI := Lib.hid hi
  have HB0 := Lib.hid hb
  have HC := Lib.hid (And.intro hc2 (And.intro hc3 hlo))
  have hin : i < n := by omega
  have f1 : ((i : Int) == -1) = false := beq_eq_false_iff_ne.2 (by omega)
  clear hr hcn hne hi hgs hgv hidx hb hc2 hc3 hfi hix hie hbb hn hgg hlo
  go_enter Try.func53, Try.ntmps53
  go_wp2_with (go_at_call 47; (refine HX.out.mono ?_); rintro e w1 ⟨rfl, hd⟩; have HD := Lib.hid hd; clear hd)
  go_loopw [5, 6, 7] (fun iv jv _ wr => ∃ m : Nat, iv = .int .i64 (i + m : Nat) ∧ jv = .int .i64 (i + m + 1 : Nat) ∧ DelI w wr g X C i m) (fun _ jv _ _ => n - (intOf jv).toNat)
  case atStart => exact ⟨0, rfl, by go_num, HI0.out _ HD.out⟩
  case round =>
    obtain ⟨m, rfl, rfl, hI⟩ := hrel
    obtain ⟨a, ha⟩ : ∃ a, a = i + m := ⟨_, rfl⟩
    obtain ⟨j, hj⟩ : ∃ j, j = a + 1 := ⟨_, rfl⟩
    have han : a < n := by have := hI.lt; have := HN.out; omega
    rw [← ha, ← hj]
    have hgl : g < wr.heap.size := hI.blk.lt
    have hO := hI.only
    have HI1 := Lib.hid hI
    have HA := Lib.hid ha
    have HJ := Lib.hid hj
    have hlt := hI.lt
    have hlen : (shl (ptrs X ++ C) i m).length = n + C.length := by rw [shl_len, List.length_append, ptrs_len, HN.out]
    have hca := hI.blk.cell a _ (List.getElem?_eq_getElem (by omega))
    have hfa := hI.blk.free a
    generalize (shl (ptrs X ++ C) i m)[a]'(by omega) = ya at hca
    by_cases hjn : j < n
    · have hjx : j < X.length := by rw [← HN.out]; exact hjn
      obtain ⟨x, hx⟩ : ∃ x, x = X[j] := ⟨_, rfl⟩
      have hxj : X[j]? = some x := by rw [List.getElem?_eq_getElem hjx, hx]
      have hcj : wr.cell? ⟨g, j, none⟩ = some (ptr x.1) := by
        rw [hI.blk.cellAt, shl_get (by rw [List.length_append, ptrs_len]; omega), if_neg (by omega), List.getElem?_append_left (by rw [ptrs_len]; exact hjx)]
        unfold ptrs
        rw [List.getElem?_map, hxj]
        rfl
      have hbx := HCN.out x (List.mem_of_getElem? hxj)
      have hxb : x.1 ≠ b := fun e => by
        have := HNE.out j i x (b, c) hxj HI.out e
        omega
      have hxg : x.1 ≠ g := (hbx.ne_type HB0.out (by decide))
      have hbg : b ≠ g := (HBB.out.ne_type HB0.out (by decide))
      have hgsr := HG.out.only hO HGG.out
      have hcl := clos54 (hbx.only hO hxg) (HBB.out.only hO hbg) (hgsr.cell 0 _ rfl) hgsr.lt
      rw [decide_eq_false hxb] at hcl
      have HCL := Lib.hid hcl
      have hst : ptr x.1 = (ptrs X ++ C).getD (i + m + 1) (.pointer none) := by
        rw [← ha, ← hj, List.getD_eq_getElem?_getD, List.getElem?_append_left (by rw [ptrs_len]; exact hjx)]
        unfold ptrs
        rw [List.getElem?_map, hxj]
        rfl
      have HST := Lib.hid hst
      clear hx hxj hbx hxb hgsr hcl hst hI hO hlt hlen ha hj hxg hbg
      go_upto_region 9 with (go_at_call 54; go_must (refine HCL.out.mono ?_); go_must (rintro e w3 ⟨rfl, hd⟩); go_must (have HD3 := Lib.hid hd); go_must (have hb3 := (HI1.out.blk.only (hd.only (fun _ => False)) (fun h => h))); go_must (have hgl3 := hb3.lt); go_must (have hca3 : w3.cell? ⟨g, a, none⟩ = some ya := (by obtain ⟨q, rfl⟩ := HD3.out; exact hca)); go_must (have hfa3 := hb3.free a); go_must (clear hd hb3))
      go_wp2
      go_roundw
      case rel =>
        refine ⟨m + 1, by rw [HA.out]; go_num, by rw [HJ.out, HA.out]; go_num, ?_⟩
        have hb3 := (HI1.out.blk.only (HD3.out.only (fun _ => False)) (fun h => h)).set a (ptr x.1)
        refine ⟨?_, (HI1.out.only.trans (HD3.out.only (fun k => k = g)) (fun _ _ h => h)).trans (only_p w3 g a _) (fun _ _ h => h), by have := HA.out; have := HJ.out; have := HN.out; omega⟩
        unfold shl
        rw [← HST.out, ← HA.out]
        exact hb3
      case measure => simp [intOf]; omega
    · have hjn : j = n := by omega
      obtain ⟨w3, hcl, ho3, cs', hb3, hl3, he3⟩ := run_clear_ptrs (o := a) (c := cap - a) hI.blk (show 0 < 1 by decide) (by rw [hlen]; omega)
      have hlast : cs' = ptrs (X.eraseIdx i) ++ cs'.drop a := by
        rw [ha]
        refine shl_erase (C := C) (a := m) (by omega) (by have := HN.out; omega) (by rw [hl3, shl_len]) (fun k hk => he3 k (by omega))
      have hle : (X.eraseIdx i).length = a := by rw [List.length_eraseIdx, if_pos (by omega)]; have := HN.out; omega
      have hcl3 : cs'.length = cap := by rw [hl3, shl_len]; have := HC.out.2.1; omega
      have HO3 := Lib.hid (hO.trans ho3 (fun _ _ h => h))
      have HB3 := Lib.hid hb3
      have HLA := Lib.hid hlast
      have HLE := Lib.hid hle
      have HL3 := Lib.hid hcl3
      have hac : a < cap := by omega
      clear hI hO hlt hlen hb3 hl3 he3 hlast hle ho3 hcl3 ha hca hfa
      subst hjn
      go_wp2_with fail
      go_ret
      refine ⟨_, rfl, ?_, rfl, HO3.out.mono (fun k _ e => by rw [e]; rfl)⟩
      have h := HB3.out
      have hlen' := HL3.out
      rw [HLA.out] at h hlen'
      have e := ownsRow_of_blk (lo := lo) (n := (X.eraseIdx i).length) (cap := cap) (size := 1) (by rw [ptrs_len, Nat.mul_one]) HC.out.2.2 h (by rw [HLE.out]; omega) HC.out.1 (by rw [hlen', Nat.mul_one])
      rw [HLE.out] at e ⊢
      exact e
theorem Pw.cutL (h : Pw w lo p P X vl vw) {i : Nat} {w2 : World} {v2 : Value} (hown : w2.ownsRow lo 65 1 v2 (X.eraseIdx i).length (ptrs (X.eraseIdx i))) (hat : v2.ownBlock = vl.ownBlock) (hon : Only (fun k => vl.ownBlock = some k) w w2) :
    Pw (w2.setCell ⟨p, 6, none⟩ v2) lo p (cutI P i) (X.eraseIdx i) v2 vw ∧ Mv (foot p X vl vw) (foot p (X.eraseIdx i) v2 vw) w (w2.setCell ⟨p, 6, none⟩ v2) := by
  have hb := h.blk.only hon h.nl
  have hop := only_p w2 p 6 v2
  have hnv : v2.ownBlock ≠ some p := by rw [hat]; exact h.nl
  have hmem : ∀ x ∈ X.eraseIdx i, x ∈ X := fun x hx => List.mem_of_mem_eraseIdx hx
  refine ⟨⟨hb.set 6 v2, owns_only hown hop (fun k hk e => hnv (by rw [hk, e])), ?_, h.low, ?_, ?_, ?_⟩, ?_, ?_⟩
  · exact (h.wt.only hon (fun k hk e => h.nlw k e hk)).only hop (fun k hk e => h.nw (by rw [hk, e]))
  · show P.l.eraseIdx i = _
    rw [h.l]
    refine List.ext_getElem? fun k => ?_
    rw [List.getElem?_eraseIdx, List.getElem?_map, List.getElem?_map, List.getElem?_map, List.getElem?_eraseIdx]
    split <;> rfl
  · intro a b x y ha hb e
    rw [List.getElem?_eraseIdx] at ha hb
    split at ha <;> split at hb
    · exact h.ne _ _ x y ha hb e
    · have := h.ne _ _ x y ha hb e; omega
    · have := h.ne _ _ x y ha hb e; omega
    · have := h.ne _ _ x y ha hb e; omega
  · intro x hx
    exact ⟨((h.cn x (hmem x hx)).1.only hon (h.nlc x (hmem x hx))).only hop (h.np x (hmem x hx)), (h.cn x (hmem x hx)).2⟩
  · exact (hon.mono (fun k _ hk => .inr (.inr (.inl hk)))).trans hop (fun k _ hk => .inl hk)
  · intro k hk
    rcases hk with hk | ⟨x, hx, hk⟩ | hk | hk
    · exact .inl (.inl hk)
    · exact .inl (.inr (.inl ⟨x, hmem x hx, hk⟩))
    · exact .inl (.inr (.inr (.inl (by rw [← hat]; exact hk))))
    · exact .inl (.inr (.inr (.inr hk)))
set_option maxRecDepth 100000 in
set_option maxHeartbeats 1600000 in
theorem cut_any (h : Pw w lo p P X vl vw) {i b : Nat} {c : Cn} (hi : X[i]? = some (b, c)) (hl64 : X.length ≤ 64) :
    Calls Try.prog 29 #[ptr p, ptr b] w fun e w' => e = .returned (.tuple #[]) ∧ PP (foot p X vl vw) w w' lo p (cutI P i) := by
  have H := Lib.hid h
  have HI := Lib.hid hi
  clear h hi
  go_enter Try.func29, Try.ntmps29
  go_upto_region 1 with fail
  have hbx : Blk (w.alloc (Obj.cells #[ptr b] 65)) w.heap.size [ptr b] 65 := Blk.new w [ptr b] 65
  have hox : Only (fun _ => False) w (w.alloc (Obj.cells #[ptr b] 65)) := (Only.refl _ _).alloc _
  obtain ⟨q, hq⟩ : ∃ q, q = w.heap.size := ⟨_, rfl⟩
  rw [← hq] at hbx ⊢
  generalize w.alloc (Obj.cells #[ptr b] 65) = w1 at hbx hox ⊢
  have h1 := H.out.only hox (fun _ _ h => h)
  have c6 := h1.blk.cell 6 _ rfl
  have hpl := h1.blk.lt
  have hqv : vl.ownBlock ≠ some q := fun e => by have := (ownsRow_lt H.out.row q e).2; omega
  have H1 := Lib.hid h1
  have HD := Lib.hid (del_any h1.row (fun x hx => (h1.cn x hx).1) h1.ne HI.out hbx hqv hl64)
  have HOX := Lib.hid hox
  clear h1 hbx hox hq hqv
  go_wp2_with (go_at_call 53; (refine HD.out.mono ?_); rintro e w2 ⟨v2, rfl, hown, hat, hon⟩; obtain ⟨a2, k2, rfl, _, _, _, _⟩ := ownsRow_slice hown; have hb2 := H1.out.blk.only hon (fun e => H1.out.nl e); have d1 := hb2.cell 6 _ rfl; have f1 := hb2.free 6; have hpl2 := hb2.lt; have HW := Lib.hid hown; have HA := Lib.hid hat; have HN := Lib.hid hon; clear hown hat hon hb2)
  go_end0
  obtain ⟨g1, g2⟩ := H1.out.cutL HW.out HA.out HN.out
  exact ⟨rfl, _, _, _, g1, (Mv.of_only HOX.out).trans g2⟩
end
end Go.Proofs.Ytmpcffkandmacaa
