/- slices.Clone and slices.Delete at numbers. -/
import Derived.Test.YtmpcffkandmacaaKeep
namespace Go.Proofs.Ytmpcffkandmacaa
open Go.RowKit
set_option linter.unusedVariables false
set_option linter.unusedSimpArgs false

theorem blk_setCells_at {b : Nat} {t : TypeId} : ∀ (vs : List Value) (o : Nat) (w : World) (cs : List Value), Blk w b cs t → o + vs.length ≤ cs.length → ∃ cs', Blk (w.setCells b o vs) b cs' t ∧ cs'.length = cs.length ∧ ∀ k, cs'[k]? = if o ≤ k ∧ k < o + vs.length then vs[k - o]? else cs[k]?
  | [], o, w, cs, h, _ => ⟨cs, h, rfl, fun k => by rw [if_neg (by simp only [List.length_nil]; omega)]⟩
  | v :: r, o, w, cs, h, hl => by
    simp only [List.length_cons] at hl
    obtain ⟨cs', h1, h2, h3⟩ := blk_setCells_at r (o + 1) _ _ (h.set o v) (by rw [List.length_set]; omega)
    refine ⟨cs', h1, by rw [h2, List.length_set], fun k => ?_⟩
    rw [h3 k]
    simp only [List.length_cons]
    by_cases hk : o + 1 ≤ k ∧ k < o + 1 + r.length
    · rw [if_pos hk, if_pos (by omega), show k - o = (k - (o + 1)) + 1 by omega, List.getElem?_cons_succ]
    · rw [if_neg hk, List.getElem?_set]
      by_cases ho : o = k
      · subst ho
        rw [if_pos rfl, if_pos (by omega), if_pos (by omega), Nat.sub_self, List.getElem?_cons_zero]
      · rw [if_neg ho, if_neg (by omega)]
theorem zero3 : ∀ w : World, (zeroValue 3).run Try.prog w = .ok (.int .i64 0) w := fun w => by kernel_rfl
theorem run_clear_ints {w : World} {g o n c : Nat} {cs : List Value} (h : Blk w g cs 3) (hn : 0 < n) (hl : o + n ≤ cs.length) :
    ∃ w', (∀ ty, (Builtin.clear_ #[51] ty #[.slice (some ⟨g, o, none⟩) n c]).run Try.prog w = .ok (.tuple #[]) w') ∧ Only (fun k => k = g) w w' ∧ ∃ cs', Blk w' g cs' 3 ∧ cs'.length = cs.length ∧ ∀ i, i < o → cs'[i]? = cs[i]? := by
  refine ⟨w.setCells g o (List.replicate n (.int .i64 0)), fun ty => ?_, only_setCells g _ o w, blk_setCells _ o w cs h⟩
  exact Lib.run_clear_slice (P := Try.prog) w 51 3 ty (.int .i64 0) Try.underlying51 zero3 rfl rfl g o n c hn (fun j hj => by rw [h.cellAt, List.getElem?_eq_getElem (by omega)]; rfl) (fun j hj => h.free _)

section
variable {w : World} {lo : Nat}
set_option maxRecDepth 100000 in
theorem clone_ints {v : Value} {l : List Int} (h : WRow w lo v l) (hl : l.length ≤ 64) (h0 : 0 < l.length) :
    Calls Try.prog 33 #[v] w fun e w' => ∃ v', e = .returned v' ∧ w'.ownsRow w.heap.size 3 1 v' l.length (ints l) ∧ Only (fun _ => False) w w' := by
  obtain ⟨i3, hi3, hz0, hz1, hz2⟩ := info_parts Try.info3
  obtain ⟨ao, cap, rfl, h1, h2, _, h4⟩ := h.slice
  obtain ⟨g, off, rfl, _, hgl, hc⟩ := h4 h0
  obtain ⟨k, hk⟩ : ∃ k, k = l.length := ⟨_, rfl⟩
  rw [← hk] at hl h0 h1 hc
  rw [← hk]
  have HK := Lib.hid hk
  have HC := Lib.hid hc
  have hcm : cap ≤ 9223372036854775807 := by unfold maxLen at h2; omega
  clear h hc hk h2 h4
  have e51 : ∀ w : World, (binOp .eql 51 (.slice (some ⟨g, off, none⟩) k cap) (.slice none 0 0)).run Try.prog w = .ok (.bool false) w := fun w => Lib.run_eql_slice_nil w 51 3 _ _ _ _ _ Try.underlying51
  go_enter Try.func33, Try.ntmps33
  go_wp2_with (at_builtin; refine wpList_append_row rfl (.tmp 5) (.tmp 6) 51 rfl w.heap.size 3 i3 _ 1 8 Try.underlying51 hi3 hz0 hz1 hz2 rfl (by decide) (.slice (some ⟨w.heap.size, 0, none⟩) 0 0) 0 [] rfl (⟨rfl, .inr ⟨w.heap.size, 0, #[], rfl, Nat.le_refl _, heap_alloc_new w _, Nat.le_refl _, by unfold maxLen; omega, rfl, rfl⟩⟩) (some ⟨g, off, none⟩) k cap (ints l) rfl (by rw [ints_len, HK.out, Nat.mul_one]) (fun _ => ⟨_, rfl, fun j u hj => by
      have hjl : j < k := by have := (List.getElem?_eq_some_iff.1 hj).1; rw [ints_len, ← HK.out] at this; exact this
      rw [Go.WideShapes.add_plain, World.cell?_of_block (a := ⟨g, off + j, none⟩) (((Only.refl (fun _ => False) w).alloc _).block g hgl (fun h => h)), HC.out j hjl, ← ints_get (by rw [← HK.out]; exact hjl)]
      exact hj⟩) (fun e => by cases e) (fun u hu => by obtain ⟨x, _, rfl⟩ := List.mem_map.1 hu; rfl) (by unfold maxLen; omega) (by omega) (by simp) ?_)
  intro v2 w2 hown hon hat _
  have HW := Lib.hid hown
  have HO := Lib.hid hon
  clear hown hon hat
  go_wp2_with fail
  go_ret
  refine ⟨_, rfl, ?_, ((Only.refl (fun _ => False) w).alloc _).trans HO.out (fun i hi e => by simp [Value.ownBlock] at e; omega)⟩
  exact HW.out
theorem ints_erase {l : List Int} {i : Nat} {C cs' : List Value} (hi : i < l.length) (hlen : cs'.length = (ints l ++ C).length) (h : ∀ k, k < l.length - 1 → cs'[k]? = if i ≤ k then (ints l)[k + 1]? else (ints l)[k]?) :
    cs' = ints (l.eraseIdx i) ++ cs'.drop (l.length - 1) := by
  have hl : (ints (l.eraseIdx i)).length = l.length - 1 := by rw [ints_len, List.length_eraseIdx, if_pos hi]
  have e : cs'.take (l.length - 1) = ints (l.eraseIdx i) := by
    refine List.ext_getElem? fun k => ?_
    by_cases hk : k < l.length - 1
    · rw [List.getElem?_take, if_pos hk, h k hk]
      unfold ints
      rw [List.getElem?_map, List.getElem?_map, List.getElem?_map, List.getElem?_eraseIdx]
      by_cases hki : k < i
      · rw [if_neg (by omega), if_pos hki]
      · rw [if_pos (by omega), if_neg hki]
    · rw [List.getElem?_take, if_neg hk, List.getElem?_eq_none (by omega)]
  rw [← e, List.take_append_drop]
set_option maxRecDepth 100000 in
set_option maxHeartbeats 1600000 in
theorem delete_ints {v : Value} {l : List Int} (hr : w.ownsRow lo 3 1 v l.length (ints l)) (hl : l.length ≤ 64) {i : Nat} (hi : i < l.length) :
    Calls Try.prog 32 #[v, .int .i64 i, .int .i64 ((i : Int) + 1)] w fun e w' => ∃ v', e = .returned v' ∧ w'.ownsRow lo 3 1 v' (l.eraseIdx i).length (ints (l.eraseIdx i)) ∧ v'.ownBlock = v.ownBlock ∧ Only (fun k => v.ownBlock = some k) w w' := by
  obtain ⟨i3, hi3, hz0, hz1, hz2⟩ := info_parts Try.info3
  obtain ⟨g, cap, C, rfl, hlo, hb, hc1, hc2, hc3⟩ := ownsRow_blk hr (by omega)
  obtain ⟨n, hn⟩ : ∃ n, n = l.length := ⟨_, rfl⟩
  rw [← hn] at hc1 hl hi ⊢
  have hcm : cap ≤ 9223372036854775807 := by unfold maxLen at hc2; omega
  obtain ⟨j, hj⟩ : ∃ j, j = i + 1 := ⟨_, rfl⟩
  rw [show ((i : Int) + 1) = (j : Int) by rw [hj]; rfl]
  have hclen : (ints l ++ C).length = cap := by rw [hc3, Nat.mul_one]
  obtain ⟨news, hnews⟩ : ∃ news, news = (ints l).drop j := ⟨_, rfl⟩
  have hnl : news.length = n - j := by rw [hnews, List.length_drop, ints_len, hn]
  obtain ⟨A, hA, hsrc⟩ : ∃ A : Addr, (if cap = j then some (⟨g, 0, none⟩ : Addr) else some ⟨g, j, none⟩) = some A ∧ Hid (∀ t u, news[t]? = some u → w.drew.cell? (A.add t) = some u) := by
    by_cases h : cap = j
    · refine ⟨⟨g, 0, none⟩, by simp [h], fun t u hu => ?_⟩
      have h0 : news.length = 0 := by rw [hnl]; omega
      rw [List.length_eq_zero_iff.1 h0] at hu
      simp at hu
    · refine ⟨⟨g, j, none⟩, by simp [h], fun t u hu => ?_⟩
      have ht : t < n - j := by
        have := (List.getElem?_eq_some_iff.1 hu).1
        rwa [hnl] at this
      rw [hnews, List.getElem?_drop] at hu
      rw [Go.WideShapes.add_plain]
      show w.cell? ⟨g, j + t, none⟩ = _
      rw [hb.cellAt, List.getElem?_append_left (by rw [ints_len]; omega), hu]
  have s1 : Hid (news.length = (n - j) * 1) := by rw [Nat.mul_one]; exact hnl
  have s2 : Hid (∀ u ∈ news, u.oneCell' = true) := by
    intro u hu
    rw [hnews] at hu
    obtain ⟨x, _, rfl⟩ := List.mem_map.1 (List.mem_of_mem_drop hu)
    rfl
  have s3 : Hid (∀ t, t < news.length → (w.drew.cell? ⟨g, 0 + i * 1 + t, none⟩).isSome = true ∧ w.drew.frozen? ⟨g, 0 + i * 1 + t, none⟩ = false) := by
    intro t ht
    rw [hnl] at ht
    refine ⟨?_, hb.free _⟩
    show (w.cell? _).isSome = true
    rw [hb.cellAt, List.getElem?_eq_getElem (by rw [hclen]; omega)]
    rfl
  obtain ⟨W1, hW1⟩ : ∃ W1, W1 = w.drew.setCells g (0 + i * 1) news := ⟨_, rfl⟩
  have hW : Hid (W1 = w.drew.setCells g (0 + i * 1) news) := hW1
  obtain ⟨cs1, hb1, hl1, hg1⟩ := blk_setCells_at news (0 + i * 1) w.drew (ints l ++ C) hb.drew (by rw [hnl, hclen]; omega)
  rw [← hW1] at hb1
  have ho1 : Only (fun k => k = g) w W1 := by rw [hW1]; exact ((Only.refl _ w).drew).trans (only_setCells g news _ _) (fun _ _ h => h)
  obtain ⟨w3, hcl, ho3, cs3, hb3, hl3, hg3⟩ := run_clear_ints (o := i + (n - j)) (n := n - (i + (n - j))) (c := cap - (i + (n - j))) hb1 (by omega) (by rw [hl1, hclen]; omega)
  have hnm : i + (n - j) = n - 1 := by omega
  have hlast : cs3 = ints (l.eraseIdx i) ++ cs3.drop (l.length - 1) := by
    refine ints_erase (C := C) (by omega) (by rw [hl3, hl1]) (fun k hk => ?_)
    rw [hg3 k (by omega), hg1 k]
    by_cases hki : i ≤ k
    · rw [if_pos (by rw [hnl]; omega), if_pos hki, hnews, List.getElem?_drop]
      congr 1
      omega
    · rw [if_neg (by omega), if_neg hki, List.getElem?_append_left (by rw [ints_len]; omega)]
  have hle : (l.eraseIdx i).length = n - 1 := by rw [List.length_eraseIdx, if_pos (by omega), hn]
  have HO3 := Lib.hid (ho1.trans ho3 (fun _ _ h => h))
  have HB3 := Lib.hid hb3
  have HLA := Lib.hid hlast
  have HLE := Lib.hid hle
  have HC := Lib.hid (And.intro hc2 (And.intro (show cs3.length = cap by rw [hl3, hl1, hclen]) hlo))
  have hic : i ≤ cap := by omega
  have hjc : j ≤ cap := by omega
  have hjn : j ≤ n := by omega
  have hij : i < j := by omega
  have HNM := Lib.hid hnm
  clear hr hb hc2 hc3 hW1 hb1 hl1 hg1 ho1 hb3 hl3 hg3 hlast hle hnews hnl hclen hn hj hlo ho3 hnm
  go_enter Try.func32, Try.ntmps32
  go_wp2_with fail
  go_region_law (refine step_append_room rfl (.tmp 22) (.tmp 25) 51 rfl 3 i3 1 Try.underlying51 hi3 hz1 g 0 i cap (by simp [Act.eval, Act.put]) A (n - j) (cap - j) news (by simp [Act.eval, Act.put]) s1.out hsrc.out s2.out (by omega) s3.out ?_; rw [← hW.out])
  go_wp2
  go_ret
  have e1 : i + (n - j) = (l.eraseIdx i).length := by rw [HNM.out, HLE.out]
  refine ⟨_, rfl, ?_, rfl, HO3.out.mono (fun k _ e => by rw [e]; rfl)⟩
  have h := HB3.out
  have hlen' := HC.out.2.1
  rw [HLA.out] at h hlen'
  have e := ownsRow_of_blk (lo := lo) (n := (l.eraseIdx i).length) (cap := cap) (size := 1) (by rw [ints_len, Nat.mul_one]) HC.out.2.2 h (by rw [HLE.out]; omega) HC.out.1 (by rw [hlen', Nat.mul_one])
  rw [← e1] at e ⊢
  exact e
end
end Go.Proofs.Ytmpcffkandmacaa
