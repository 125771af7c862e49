/- Next. -/
import Derived.Test.YtmpcffkandmacaaSame
namespace Go.Proofs.Ytmpcffkandmacaa
open Go.RowKit
set_option linter.unusedVariables false
set_option linter.unusedSimpArgs false

def FirstR (l : List Nat) (r : Nat) (f : Bool) : Prop := (l = [] ∧ r = 0 ∧ f = false) ∨ (∃ m, IsMin l m ∧ r = l.getD m 0 ∧ f = true)
theorem firstR_ex (l : List Nat) : ∃ r f, FirstR l r f := by
  by_cases h : l = []
  · exact ⟨0, false, .inl ⟨h, rfl, rfl⟩⟩
  · obtain ⟨m, hm⟩ := isMin_ex l h
    exact ⟨_, true, .inr ⟨m, hm, rfl, rfl⟩⟩
theorem first_r {w : World} {v : Value} {l : List Nat} {r : Nat} {f : Bool} (h : IRow w v (nints l)) (hf : FirstR l r f) (h62 : ∀ x ∈ l, x ≤ 4611686018427387904) (h9 : l.length ≤ 100) :
    Calls Try.prog 44 #[v] w fun e w' => e = .returned (.tuple #[.int .i64 r, .bool f]) ∧ w = w' := by
  rcases hf with ⟨rfl, rfl, rfl⟩ | ⟨m, hm, rfl, rfl⟩
  · exact first_nil w h
  · exact first_any h hm h62 h9
theorem rfirst_r {w : World} {v : Value} {l : List Nat} {r : Nat} {f : Bool} (h : IRow w v (nints l)) (hf : FirstR l r f) (h62 : ∀ x ∈ l, x ≤ 4611686018427387904) (h9 : l.length ≤ 100) :
    Calls Try.prog 46 #[v] w fun e w' => e = .returned (.tuple #[.int .i64 r, .bool f]) ∧ w = w' := by
  rcases hf with ⟨rfl, rfl, rfl⟩ | ⟨m, hm, rfl, rfl⟩
  · exact rfirst_nil w h
  · exact rfirst_any h hm h62 h9
/-- When what rests is not good any more. -/
def nextL (P : Pp) (l : List Cn) : List Nat := (l.filter fun c => decide (c.st = 2)).map (endC P)
theorem nextL_succ {P : Pp} {l : List Cn} {j : Nat} (h : j < l.length) : nextL P (l.take (j + 1)) = nextL P (l.take j) ++ if (cnAt l j).st = 2 then [endC P (cnAt l j)] else [] := by
  unfold nextL
  rw [List.take_succ_eq_append_getElem h, List.filter_append, List.map_append, cnAt_eq h]
  congr 1
  by_cases hs : l[j].st = 2
  · simp [hs]
  · simp [hs]
theorem endC_le (P : Pp) (c : Cn) : endC P c ≤ 4611686018427387904 := by
  unfold endC
  have := later_le c.since P.idle
  omega
theorem nextL_le (P : Pp) (l : List Cn) : ∀ x ∈ nextL P l, x ≤ 4611686018427387904 := fun x hx => by
  obtain ⟨c, _, rfl⟩ := List.mem_map.1 hx
  exact endC_le P c
theorem nextL_len (P : Pp) (l : List Cn) : (nextL P l).length ≤ l.length := by
  unfold nextL
  rw [List.length_map]
  exact List.length_filter_le _ _
/-- A row of moments of the call's own. -/
structure Acc (w wr : World) (v : Value) (l : List Nat) : Prop where
  row : wr.ownsRow w.heap.size 3 1 v l.length (ints (nints l))
  only : Only (fun _ => False) w wr
theorem Acc.trans {w wr w' : World} {v : Value} {l : List Nat} (h : Acc w wr v l) (ho : Only (fun _ => False) wr w') : Acc w w' v l := ⟨owns_only h.row ho (fun _ _ h => h), h.only.trans ho (fun _ _ h => h)⟩
theorem Acc.irow {w wr : World} {v : Value} {l : List Nat} (h : Acc w wr v l) : IRow wr v (nints l) := iRow_of (by rw [nints_len]; exact h.row)
theorem Acc.app {w wa w' : World} {v v' : Value} {l : List Nat} {L : Nat} (h : Acc w wa v l) (hr : w'.ownsRow w.heap.size 3 1 v' (l.length + 1) (ints (nints l) ++ [.int .i64 L])) (ho : Only (fun i => v.ownBlock = some i) wa w') : Acc w w' v' (l ++ [L]) := by
  refine ⟨?_, h.only.trans ho (fun i hi e => ?_)⟩
  · rw [List.length_append, List.length_singleton, nints_snoc, ints_append]
    exact hr
  · have := (ownsRow_lt h.row i e).1
    omega

section
variable {F : Nat → Prop} {w0 w : World} {lo p : Nat} {P : Pp} {X : List (Nat × Cn)} {vl vw : Value}
set_option maxRecDepth 100000 in
set_option maxHeartbeats 1600000 in
theorem next_any (h : PP F w0 w lo p P) {k : Nat} (hk : Okp P k) {r : Nat} {f : Bool} (hf : FirstR (nextL P P.l) r f) :
    Calls Try.prog 20 #[ptr p] w fun e w' => e = .returned (.tuple #[.int .i64 r, .bool f]) ∧ Only (fun _ => False) w w' := by
  obtain ⟨i3, hi3, hz0, hz1, hz2⟩ := info_parts Try.info3
  obtain ⟨X, vl, vw, h, hm⟩ := h
  obtain ⟨n, hnl⟩ : ∃ n, n = P.l.length := ⟨_, rfl⟩
  have hnx : n = X.length := hnl.trans h.len
  have hn64 : n ≤ 64 := by rw [hnl]; exact hk.l64
  obtain ⟨ao, cap, rfl, h1, h2, _, h4⟩ := ownsRow_slice h.row
  have hcm : cap ≤ 9223372036854775807 := by unfold maxLen at h2; omega
  rw [← hnx] at h1 h
  have c6 := h.blk.cell 6 _ rfl
  have hpl := h.blk.lt
  have H := Lib.hid h
  have HK := Lib.hid hk
  have HNL := Lib.hid hnl
  have HNX := Lib.hid hnx
  have HF := Lib.hid hf
  clear h hk hnl hnx h2 h4 hm hf
  go_enter Try.func20, Try.ntmps20
  go_upto_region 5 with fail
  clear c6 hpl
  go_loopw [4, 6, 14] (fun o _ i wr => ∃ j : Nat, j ≤ n ∧ i = .int .i64 j ∧ Acc w wr o (nextL P (P.l.take j))) (fun _ _ i _ => n - (intOf i).toNat)
  case atStart => exact ⟨0, Nat.zero_le _, rfl, World.ownsRow_nil _ _ _ _, Only.refl _ _⟩
  case round =>
    obtain ⟨j, hj, rfl, hA⟩ := hrel
    have hR := H.out.only hA.only (fun _ _ h => h)
    obtain ⟨L, hL⟩ : ∃ L, L = nextL P (P.l.take j) := ⟨_, rfl⟩
    rw [← hL] at hA
    have hll : L.length ≤ 64 := by rw [hL]; exact Nat.le_trans (nextL_len _ _) (by rw [List.length_take]; omega)
    obtain ⟨ax, cx, rfl, hx1, hx2, _, _⟩ := ownsRow_slice hA.row
    have HL := Lib.hid hL
    have HA := Lib.hid hA
    clear hL hA
    by_cases hlt : j < n
    · have hjl : j < P.l.length := by rw [← HNL.out]; exact hlt
      obtain ⟨b, hb⟩ := hR.at_ hjl
      obtain ⟨c, hc⟩ : ∃ c, c = cnAt P.l j := ⟨_, rfl⟩
      have hsu := nextL_succ (P := P) hjl
      rw [← hc] at hb hsu
      obtain ⟨_, _, hbk, _⟩ := hR.cnAt_ hb
      obtain ⟨ht1, ht2, ht3⟩ := hR.okt HK.out.t hb
      obtain ⟨ao', cap', e, _, _, kx⟩ := pRow_of (X := X) (v := .slice ao X.length cap) (by have := hR.row; rwa [HNX.out] at this)
      injection e with e1 _ e3
      subst e1 e3
      obtain ⟨g, rfl, hgl, hcc⟩ := kx (by rw [← HNX.out]; omega)
      have c0 := hcc j _ hb
      simp only at c0
      have k1 := hbk.cell 1 _ rfl
      have hbl := hbk.lt
      have HEND := Lib.hid (fun (w' : World) (hd : Drawn wr w') => end_any (hR.only (hd.only (fun _ => False)) (fun _ _ h => h)) HK.out.n hb ht1 ht2)
      obtain ⟨en, hen⟩ : ∃ en, en = endC P c := ⟨_, rfl⟩
      rw [← hen] at HEND hsu
      rw [← HL.out] at hsu
      have HSU := Lib.hid hsu
      clear hR hbk hb hc kx hcc hen hsu
      by_cases hs : c.st = 2
      · have HS2 := Lib.hid (show nextL P (P.l.take (j + 1)) = L ++ [en] by rw [HSU.out, if_pos hs])
        rw [hs] at k1
        clear hs
        have hsz := HA.out.only.size
        go_upto_region 9 with (first
          | (go_at_call 35; (refine (HEND.out _ (Drawn.refl _)).mono ?_); rintro e w3 ⟨rfl, hd⟩; have HA3 := Lib.hid (HA.out.trans (hd.only (fun _ => False))); have hsz3 := (hd.only (fun _ => False)).size; clear hd)
          | (at_builtin; refine wpList_append_row rfl (.tmp 23) (.tmp 27) 51 rfl w.heap.size 3 i3 (.int .i64 0) 1 8 Try.underlying51 hi3 hz0 hz1 hz2 rfl (by decide) (.slice ax L.length cx) L.length (ints (nints L)) rfl (HA3.out.row.alloc _) (some ⟨w3.heap.size, 0, none⟩) 1 1 [.int .i64 en] rfl rfl (fun _ => ⟨_, rfl, new_one _ _ _⟩) (fun e => by cases e) (one_int _ _) (by unfold maxLen; omega) (by omega) (by simp only [World.size_alloc]; omega) ?_; intro v9 w9 hown9 hon9 hat9 _; obtain ⟨a9, k9, rfl, _, _, _, _⟩ := ownsRow_slice hown9; have HO9 := Lib.hid hown9; have HN9 := Lib.hid hon9; clear hown9 hon9 hat9))
        go_wp2_with fail
        go_roundw
        case rel => exact ⟨j + 1, by omega, by go_num, by rw [HS2.out]; exact (HA3.out.trans ((Only.refl (fun _ => False) w3).alloc (Obj.cells #[.int .i64 en] 3))).app HO9.out HN9.out⟩
        case measure => simp [intOf]; omega
      · have HS2 := Lib.hid (show nextL P (P.l.take (j + 1)) = L by rw [HSU.out, if_neg hs, List.append_nil])
        have f1 : ((c.st : Int) == 2) = false := beq_eq_false_iff_ne.2 (by omega)
        generalize c.st = s at k1 f1
        clear hs
        go_wp2_with fail
        go_roundw
        case rel => exact ⟨j + 1, by omega, by go_num, by rw [HS2.out]; exact HA.out⟩
        case measure => simp [intOf]; omega
    · have hjn : j = n := by omega
      have hLf : L = nextL P P.l := by rw [HL.out, hjn, HNL.out, List.take_length]
      have HFF := Lib.hid (first_r HA.out.irow (by rw [hLf]; exact HF.out) (by rw [hLf]; exact nextL_le _ _) (by omega))
      clear hLf hR
      go_wp2_with (go_at_call 44; (refine HFF.out.mono ?_); rintro e w3 ⟨rfl, rfl⟩)
      go_ret2
      exact ⟨rfl, HA.out.only⟩
end
theorem lq_next {w0 w : World} {p : Nat} {P : Pp} {K : Kept} {R : List Rowd} (h : Lq w0 w p P K R) {k : Nat} (hk : Okp P k) {r : Nat} {f : Bool} (hf : FirstR (nextL P P.l) r f) :
    Calls Try.prog 20 #[ptr p] w fun e w' => e = .returned (.tuple #[.int .i64 r, .bool f]) ∧ Only (fun _ => False) w w' := by
  obtain ⟨X, vl, vw, h⟩ := h
  exact next_any h.pp hk hf
end Go.Proofs.Ytmpcffkandmacaa
