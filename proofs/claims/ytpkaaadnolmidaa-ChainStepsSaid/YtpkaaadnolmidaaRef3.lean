/- The reference's chain: Take. -/
import Derived.Test.YtpkaaadnolmidaaRef2
namespace Go.Proofs.Ytpkaaadnolmidaa
open Go.RowKit
set_option linter.unusedVariables false
set_option linter.unusedSimpArgs false

theorem ownsRow_form2 {w : World} {base e size n : Nat} {v : Value} {xs : List Value} (h : w.ownsRow base e size v n xs) :
    (v = .slice none 0 0 ∧ n = 0) ∨ ∃ g cap, v = .slice (some ⟨g, 0, none⟩) n cap ∧ n ≤ cap ∧ cap ≤ maxLen ∧ v.ownBlock = some g := by
  rcases h.2 with hh | ⟨g, cap, cur, rfl, _, _, h1, h2, _⟩
  · exact .inl hh
  · exact .inr ⟨g, cap, rfl, h1, h2, rfl⟩

def RTakePost (w w' : World) (u : Value) (lo p : Nat) (bound high low : Nat) (L T : List Int) (stop : Bool) : Prop :=
  ∃ v', Rc w' lo p v' bound high low L stop ∧ Own w' w.heap.size u T ∧ Only (fun k => k = p) w w' ∧ (∀ b, v'.ownBlock = some b → w.heap.size ≤ b)

theorem own_drop {w : World} {lo g : Nat} {v : Value} {L : List Int} (h : Own w lo v L) (hg : v.ownBlock = some g) (k : Nat) :
    ∀ j u, (bytes (L.drop k))[j]? = some u → w.cell? ((⟨g, k, none⟩ : Addr).add j) = some u := by
  intro j u hu
  have hj : j < (L.drop k).length := by
    have := (List.getElem?_eq_some_iff.1 hu).1
    rwa [bytes_length] at this
  rw [bytes_get _ _ hj] at hu
  rw [List.length_drop] at hj
  rw [Go.WideShapes.add_plain, own_cell h hg (k + j) (by omega), ← hu, getD_drop]

/-- What stands behind Take's stores. -/
theorem rtake_fin {w w1 w2 W : World} {lo p k : Nat} {v u v' : Value} {bound high low : Nat} {L T : List Int} {stop stop' : Bool} (h : Rc w lo p v bound high low L stop) (hlo : lo ≤ w.heap.size) (hk : k = T.length) (hT : T = L.take k)
    (h1 : Own w1 w.heap.size u T) (o1 : Only (fun _ => False) w w1) (o2 : Only (fun i => (Value.slice none 0 0).ownBlock = some i) w1 w2) (h2 : w2.ownsRow w.heap.size 5 1 v' (L.length - k) (bytes (L.drop k)))
    (oW : Only (fun i => i = p) w2 W) (hb : Blk W p [.int .i64 bound, .int .i64 high, .int .i64 low, v', .bool stop'] 42) :
    RTakePost w W u lo p bound high low (L.drop k) T stop' := by
  have hp := (h.lt p (.inl rfl)).2
  have hne : ∀ b, v'.ownBlock = some b → b ≠ p := fun b hb e => by have := (ownsRow_lt h2 b hb).1; omega
  have o2' : Only (fun _ => False) w1 w2 := o2.mono (fun i _ hi => by cases hi)
  refine ⟨v', ⟨hb, ?_, by have := h.max; rw [List.length_drop]; omega, h.most, h.marks, h.lo_⟩, ?_, ((o1.trans o2' (fun _ _ h => h)).mono (fun _ _ hf => hf.elim)).trans oW (fun _ _ h => h), fun b hb => (ownsRow_lt h2 b hb).1⟩
  · have : Own w2 w.heap.size v' (L.drop k) := by unfold Own; rw [List.length_drop]; exact h2
    exact ownsRow_lower (owns_only this oW (fun b hb e => hne b hb e)) hlo
  · exact owns_only (owns_only h1 o2' (fun _ _ => id)) oW (fun b hb e => by have := (ownsRow_lt h1 b hb).1; omega)

section
variable {w : World} {lo p : Nat} {v : Value} {bound high low : Nat} {L : List Int} {stop : Bool}

set_option maxRecDepth 100000 in
set_option maxHeartbeats 1600000 in
theorem rtake_any (h : Rc w lo p v bound high low L stop) (hlo : lo ≤ w.heap.size) (n : Int) :
    Calls Try.prog 14 #[.pointer (some ⟨p, 0, none⟩), .int .i64 n] w fun e w' => ∃ u, e = .returned u ∧ RTakePost w w' u lo p bound high low (L.drop n.toNat) (L.take n.toNat) (dropStop low (L.drop n.toNat) stop) := by
  obtain ⟨i5, hi, hz0, hz1, hz2⟩ := info_parts Try.info5
  have h1 := h.max
  have h3 := h.most
  obtain ⟨k, hk⟩ : ∃ k, k = min n.toNat L.length := ⟨_, rfl⟩
  have ht : L.take n.toNat = L.take k := by rw [List.take_eq_take_iff]; omega
  have hd : L.drop n.toNat = L.drop k := by
    rcases Nat.le_total n.toNat L.length with hl | hl
    · rw [hk, Nat.min_eq_left hl]
    · rw [hk, Nat.min_eq_right hl, List.drop_of_length_le hl, List.drop_length]
  have hpk := fun W (hr : Rc W lo p v bound high low L stop) => rpeek_any hr n
  rw [ht] at hpk
  rw [ht, hd]
  have hkL : k ≤ L.length := by omega
  clear hk ht hd
  obtain ⟨T, hT⟩ : ∃ T, T = L.take k := ⟨_, rfl⟩
  have hTl : T.length = k := by rw [hT, List.length_take]; omega
  rw [← hT] at hpk ⊢
  have HT := Lib.hid hT
  have HTL := Lib.hid hTl
  have HP := Lib.hid hpk
  clear hpk hT hTl
  have hdl : (L.drop k).length = L.length - k := List.length_drop
  have hds : dropStop low (L.drop k) stop = if L.length - k ≤ low then false else stop := by unfold dropStop; rw [hdl]
  obtain ⟨st, hst⟩ : ∃ st, st = if L.length - k ≤ low then false else stop := ⟨_, rfl⟩
  rw [hds, ← hst]
  have hst2 : (L.length - k ≤ low ∧ st = false) ∨ (¬ L.length - k ≤ low ∧ st = stop) := by
    by_cases hl : L.length - k ≤ low
    · exact .inl ⟨hl, by rw [hst, if_pos hl]⟩
    · exact .inr ⟨hl, by rw [hst, if_neg hl]⟩
  clear hds hst
  have H := Lib.hid h
  have hdl2 : L.length - k ≤ 1048576 := by omega
  rcases ownsRow_form2 h.own with ⟨rfl, hL0⟩ | ⟨g, cap, rfl, hlc, hcm, hg⟩
  · obtain rfl : L = [] := List.eq_nil_of_length_eq_zero hL0
    clear h hL0
    obtain rfl : k = 0 := by simpa using hkL
    have hst : st = false := by
      rcases hst2 with ⟨_, h⟩ | ⟨h, _⟩
      · exact h
      · simp at h
    have HST := Lib.hid hst
    clear hst hst2 hdl hdl2 h1 hkL
    go_enter Try.func14, Try.ntmps14
    go_wp2_with (first
      | (go_at_call 17; (with_reducible refine (HP.out _ H.out).mono ?_); rintro e w1 ⟨u, rfl, hp⟩; obtain ⟨uo, uc, rfl, _, _, _, _⟩ := ownsRow_slice hp.own; rw [HTL.out] at hp ⊢; have hrc := H.out.only hp.only (fun _ _ => id); have c3 := hrc.blk.cell 3 _ rfl; have s1 := hp.only.size; have HPP := Lib.hid hp; have HR := Lib.hid hrc; clear hp hrc)
      | (at_builtin; refine wpList_append_row rfl (.tmp 10) (.tmp 17) 33 rfl w.heap.size 5 i5 (.int .u8 0) 1 1 Try.underlying33 hi hz0 hz1 hz2 rfl (by decide) _ 0 [] rfl (World.ownsRow_nil _ _ _ _) _ _ _ ([]) rfl (by simp) (fun h0 => by simp at h0) (fun _ => rfl) (by intro u hu; simp at hu) (by unfold maxLen; simp) (by simp) (by omega) ?_))
    intro v2 w2 hown2 hon2 hat2 _
    obtain ⟨a2, c2, rfl, _, _, _, _⟩ := ownsRow_slice hown2
    have hbp := HR.out.blk.only hon2 (fun e => by cases e)
    have f3 := hbp.free 3
    have f4 := hbp.free 4
    have k3 := hbp.cell 3 _ rfl
    have k2 := hbp.cell 2 _ rfl
    have k4 := hbp.cell 4 _ rfl
    have HO2 := Lib.hid hown2
    have HN2 := Lib.hid hon2
    have HB2 := Lib.hid hbp
    clear hown2 hon2 hbp hat2
    go_wp2
    go_quiet (fail)
    go_wp2
    go_ret
    rw [HST.out]
    exact ⟨_, rfl, rtake_fin H.out hlo HTL.out.symm HT.out HPP.out.own HPP.out.only HN2.out HO2.out ((((Only.refl (fun i => i = p) w2).setCell (p := ⟨p, 3, none⟩) (fun _ => rfl) _).drewN _).setCell (p := ⟨p, 4, none⟩) (fun _ => rfl) _) (((HB2.out.set 3 _).drewN _).set 4 _)⟩
  · clear h
    by_cases hck : cap = k
    · have hke1 : L.length ≤ k := by omega
      have hck2 : (cap = k) = True := eq_true hck
      clear hck
      go_enter Try.func14, Try.ntmps14
      go_wp2_with (first
        | (go_at_call 17; (with_reducible refine (HP.out _ H.out).mono ?_); rintro e w1 ⟨u, rfl, hp⟩; obtain ⟨uo, uc, rfl, _, _, _, _⟩ := ownsRow_slice hp.own; rw [HTL.out] at hp ⊢; have hrc := H.out.only hp.only (fun _ _ => id); have c3 := hrc.blk.cell 3 _ rfl; have s1 := hp.only.size; have HPP := Lib.hid hp; have HR := Lib.hid hrc; clear hp hrc)
        | (at_builtin; refine wpList_append_row rfl (.tmp 10) (.tmp 17) 33 rfl w.heap.size 5 i5 (.int .u8 0) 1 1 Try.underlying33 hi hz0 hz1 hz2 rfl (by decide) _ 0 [] rfl (World.ownsRow_nil _ _ _ _) _ _ _ (bytes (L.drop k)) rfl (by rw [bytes_length]; simp only [List.length_drop, List.length_nil]; omega) (fun h0 => by omega) (fun e => by cases e) (bytes_one _) (by unfold maxLen; omega) (by omega) (by omega) ?_))
      intro v2 w2 hown2 hon2 hat2 _
      obtain ⟨a2, c2, rfl, _, _, _, _⟩ := ownsRow_slice hown2
      have hbp := HR.out.blk.only hon2 (fun e => by cases e)
      have f3 := hbp.free 3
      have f4 := hbp.free 4
      have k3 := hbp.cell 3 _ rfl
      have k2 := hbp.cell 2 _ rfl
      have k4 := hbp.cell 4 _ rfl
      have HO2 := Lib.hid hown2
      have HN2 := Lib.hid hon2
      have HB2 := Lib.hid hbp
      clear hown2 hon2 hbp hat2
      rcases hst2 with ⟨hlow, hst⟩ | ⟨hlow, hst⟩
      · have hd1 : decide (L.length - k ≤ low) = true := decide_eq_true hlow
        have HST := Lib.hid hst
        clear hst
        go_wp2
        go_quiet (fail)
        go_wp2
        go_ret
        rw [HST.out]
        exact ⟨_, rfl, rtake_fin H.out hlo HTL.out.symm HT.out HPP.out.own HPP.out.only HN2.out (by have h0 := HO2.out; rw [show L.length - k = 0 by omega]; exact h0) ((((Only.refl (fun i => i = p) w2).setCell (p := ⟨p, 3, none⟩) (fun _ => rfl) _).drewN _).setCell (p := ⟨p, 4, none⟩) (fun _ => rfl) _) (((HB2.out.set 3 _).drewN _).set 4 _)⟩
      · omega
    · have hck0 := hck
      go_enter Try.func14, Try.ntmps14
      go_wp2_with (first
        | (go_at_call 17; (with_reducible refine (HP.out _ H.out).mono ?_); rintro e w1 ⟨u, rfl, hp⟩; obtain ⟨uo, uc, rfl, _, _, _, _⟩ := ownsRow_slice hp.own; rw [HTL.out] at hp ⊢; have hrc := H.out.only hp.only (fun _ _ => id); have c3 := hrc.blk.cell 3 _ rfl; have s1 := hp.only.size; have HPP := Lib.hid hp; have HR := Lib.hid hrc; clear hp hrc)
        | (at_builtin; refine wpList_append_row rfl (.tmp 10) (.tmp 17) 33 rfl w.heap.size 5 i5 (.int .u8 0) 1 1 Try.underlying33 hi hz0 hz1 hz2 rfl (by decide) _ 0 [] rfl (World.ownsRow_nil _ _ _ _) _ _ _ (bytes (L.drop k)) rfl (by rw [bytes_length]; simp only [List.length_drop, List.length_nil]; omega) (fun h0 => ⟨_, rfl, own_drop HR.out.own hg k⟩) (fun e => by cases e) (bytes_one _) (by unfold maxLen; omega) (by omega) (by omega) ?_))
      intro v2 w2 hown2 hon2 hat2 _
      obtain ⟨a2, c2, rfl, _, _, _, _⟩ := ownsRow_slice hown2
      have hbp := HR.out.blk.only hon2 (fun e => by cases e)
      have f3 := hbp.free 3
      have f4 := hbp.free 4
      have k3 := hbp.cell 3 _ rfl
      have k2 := hbp.cell 2 _ rfl
      have k4 := hbp.cell 4 _ rfl
      have HO2 := Lib.hid hown2
      have HN2 := Lib.hid hon2
      have HB2 := Lib.hid hbp
      clear hown2 hon2 hbp hat2
      rcases hst2 with ⟨hlow, hst⟩ | ⟨hlow, hst⟩
      · have hd1 : decide (L.length - k ≤ low) = true := decide_eq_true hlow
        have HST := Lib.hid hst
        clear hst
        go_wp2
        go_quiet (fail)
        go_wp2
        go_ret
        rw [HST.out]
        exact ⟨_, rfl, rtake_fin H.out hlo HTL.out.symm HT.out HPP.out.own HPP.out.only HN2.out HO2.out ((((Only.refl (fun i => i = p) w2).setCell (p := ⟨p, 3, none⟩) (fun _ => rfl) _).drewN _).setCell (p := ⟨p, 4, none⟩) (fun _ => rfl) _) (((HB2.out.set 3 _).drewN _).set 4 _)⟩
      · have hd1 : decide (L.length - k ≤ low) = false := decide_eq_false hlow
        have HST := Lib.hid hst
        clear hst
        go_wp2
        go_quiet (fail)
        go_wp2
        go_ret
        rw [HST.out]
        exact ⟨_, rfl, rtake_fin H.out hlo HTL.out.symm HT.out HPP.out.own HPP.out.only HN2.out HO2.out (((Only.refl (fun i => i = p) w2).setCell (p := ⟨p, 3, none⟩) (fun _ => rfl) _).drewN _) ((HB2.out.set 3 _).drewN _)⟩
end
end Go.Proofs.Ytpkaaadnolmidaa
