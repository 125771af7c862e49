/- chain.Put: the walk. -/
import Derived.Test.YtpkaaadnolmidaaWalks6
namespace Go.Proofs.Ytpkaaadnolmidaa
open Go.RowKit
set_option linter.unusedVariables false

section
variable {w : World} {p : Nat} {g : Option Nat} {r : List Int} {fr bound high low : Nat} {L : List Int} {stop : Bool}

theorem grow_at (h : Ch w p g r fr bound high low L stop) (n : Int) (size : Nat) (hn : n = size) (hL : L.length ≤ size) (hb : size ≤ bound) :
    Calls Try.prog 23 #[.pointer (some ⟨p, 0, none⟩), .int .i64 n] w fun e w' => e = .returned (.tuple #[]) ∧ GrowPost w w' p g bound high low size L stop := by
  subst hn
  exact grow_any h size hL hb

/-- Behind the stores: the chain stands, with k bytes more. -/
theorem put_fin {w w1 w4 W : World} {gk k m at_ : Nat} {M : List Int} {stop' : Bool} {r1 : List Int} {fr1 : Nat} (h : Ch w p g r fr bound high low L stop) (hc : Ch w1 p (some gk) r1 fr1 bound high low L stop) (hg : some gk = g ∨ ∃ b, some gk = some b ∧ w.heap.size ≤ b)
    (ho1 : Only (fun k => k = p) w w1) (ho4 : Only (fun k => k = gk) w1 w4) (hW : Only (fun k => k = p) w4 W)
    (hb4 : Blk w4 gk (bytes (splice (splice r1 at_ ((M.drop 0).take m)) 0 ((M.drop m).take (k - m)))) 5)
    (hb : Blk W p [.int .i64 bound, .int .i64 high, .int .i64 low, .slice (some ⟨gk, 0, none⟩) r1.length r1.length, .int .i64 fr1, .int .i64 ((L ++ M.take k).length : Nat), .bool stop'] 47)
    (hk : k ≤ M.length) (hfit : L.length + k ≤ r1.length) (hk1 : 1 ≤ k) (hat_ : at_ = (fr1 + L.length) % r1.length) (hm : m = min k (r1.length - at_)) :
    PutPost w W p g bound high low (L ++ M.take k) stop' := by
  obtain ⟨hring, hgp, hfr⟩ := hc.ring gk rfl
  obtain ⟨hl, hat⟩ := put_pure hfr hk hfit hk1 hat_ hm hc.at_
  have hlen : (L ++ M.take k).length = L.length + k := by rw [List.length_append, List.length_take]; omega
  refine ⟨some gk, splice (splice r1 at_ ((M.drop 0).take m)) 0 ((M.drop m).take (k - m)), fr1, ⟨by simp only [ringVal, hl]; exact hb, (fun e => by cases e), fun x hx => ?_, by omega, by have := hc.max; omega, hc.most, hc.marks, by rw [hl]; exact hat⟩, ?_, ?_⟩
  · cases hx
    exact ⟨hb4.only hW hgp, hgp, by omega⟩
  · refine ((ho1.mono (fun i _ hi => ?_)).trans ho4 (fun i hi h4 => ?_)).trans hW (fun i hi h5 => ?_)
    · exact .inl hi
    · rcases hg with hg | ⟨b, e, hb⟩
      · exact .inr (by rw [h4, hg])
      · cases e; omega
    · exact .inl h5
  · rcases hg with hg | ⟨b, e, hb⟩
    · exact .inl hg
    · exact .inr ⟨b, e, hb⟩

theorem Src.cells {w : World} {gb off cap : Nat} {M : List Int} (h : Src w (some ⟨gb, off, none⟩) cap M) (h0 : 0 < M.length) : ∀ j, j < M.length → w.cell? ⟨gb, off + j, none⟩ = some (.int .u8 (M.getD j 0)) := by
  obtain ⟨gb', off', e, _, hc⟩ := h.at_ h0
  cases e
  exact hc
theorem srcs0 {w : World} {gb off : Nat} {M : List Int} (hc : ∀ j, j < M.length → w.cell? ⟨gb, off + j, none⟩ = some (.int .u8 (M.getD j 0))) (m : Nat) :
    ∀ j v, (bytes ((M.drop 0).take m))[j]? = some v → w.cell? ((⟨gb, off, none⟩ : Addr).add j) = some v := srcs hc 0 m
theorem put_ring {w1 : World} {g1 : Option Nat} {r1 : List Int} {fr1 k : Nat} (hc : Ch w1 p g1 r1 fr1 bound high low L stop) (hs : L.length + k ≤ r1.length) (hk : 1 ≤ k) : ∃ gk, g1 = some gk := by
  cases g1 with
  | none => have := (hc.nil rfl).1; subst this; simp at hs; omega
  | some gk => exact ⟨gk, rfl⟩

set_option maxRecDepth 100000 in
set_option maxHeartbeats 3200000 in
theorem put_some (h : Ch w p g r fr bound high low L stop) (ad : Option Addr) (cap : Nat) (M : List Int) (hsrc : Src w ad cap M) (hdis : ∀ gb off, ad = some ⟨gb, off, none⟩ → ¬ foot p g gb) (k : Nat) (hk : k = min M.length (bound - L.length)) (hk1 : 1 ≤ k) :
    Calls Try.prog 11 #[.pointer (some ⟨p, 0, none⟩), .slice ad M.length cap] w fun e w' => e = .returned (.int .i64 k) ∧ PutPost w w' p g bound high low (L ++ M.take k) (putStop high k (L ++ M.take k) stop) := by
  have h1 := h.fit
  have h2 := h.max
  have h3 := h.most
  have h4 := h.marks
  have hcap := hsrc.le
  have hmax := hsrc.max
  obtain ⟨gb, off, rfl, hgb, hcb⟩ := hsrc.at_ (by omega)
  have hd := hdis gb off rfl
  have c5 := h.blk.cell 5 _ rfl
  have H := Lib.hid h
  have HD := Lib.hid hd
  have HCB := Lib.hid hsrc
  have hgbp : gb ≠ p := fun e => hd (.inl e)
  have hgbg : ∀ b, (some b = g ∨ ∃ x, some b = some x ∧ w.heap.size ≤ x) → gb ≠ b := fun b hb e => by
    rcases hb with hb | ⟨x, e2, hb⟩
    · exact hd (.inr (by rw [e, hb]))
    · cases e2; omega
  have HGB := Lib.hid hgbg
  clear hgbg
  have hlen : ((L ++ M.take k).length : Int) = (L.length : Int) + k := by rw [List.length_append, List.length_take]; omega
  have hps : putStop high k (L ++ M.take k) stop = (stop || decide (high ≤ L.length + k)) := by
    unfold putStop
    rw [if_neg (by omega), List.length_append, List.length_take, Nat.min_eq_left (by omega)]
  rw [hps]
  have HLEN := Lib.hid hlen
  have hM0 : 0 < M.length := by omega
  clear h hd hcb hlen hps hsrc hdis
  have hsc : stop = true ∨ (stop = false ∧ high ≤ L.length + k) ∨ (stop = false ∧ ¬ high ≤ L.length + k) := by
    cases stop
    · by_cases hh : high ≤ L.length + k
      · exact .inr (.inl ⟨rfl, hh⟩)
      · exact .inr (.inr ⟨rfl, hh⟩)
    · exact .inl rfl
  have hcases : ((M.length : Int) ≤ bound - L.length ∧ k = M.length) ∨ ((bound : Int) - L.length < M.length ∧ k = bound - L.length) := by omega
  have hkM : k ≤ M.length := by omega
  have hkB : L.length + k ≤ bound := by omega
  have hkC : k ≤ cap := by omega
  clear hk
  rcases hcases with ⟨hc, hkk⟩ | ⟨hc, hkk⟩
  · have HK := Lib.hid hkk
    clear hkk
    go_enter Try.func11, Try.ntmps11
    go_wp2_with (first
      | (go_at_call 21; (with_reducible refine (room_any H.out).mono ?_); rintro e w' ⟨rfl, n1, rfl⟩; rw [← HK.out])
      | (go_at_call 23; (with_reducible refine (grow_at (H.out.drawn (Drawn.of w n1)) _ (L.length + k) (by omega) (by omega) hkB).mono ?_); rintro e w1 ⟨rfl, hgr⟩; obtain ⟨g1, r1, fr1, hc1, hs1, ho1, hg1⟩ := hgr; obtain ⟨gk, rfl⟩ := put_ring hc1 hs1 hk1; have d3 := hc1.blk.cell 3 _ rfl; simp only [ringVal] at d3; have d4 := hc1.blk.cell 4 _ rfl; have d5 := hc1.blk.cell 5 _ rfl; have hfr := (hc1.ring gk rfl).2.2; have m1 := hc1.max; have HC1 := Lib.hid hc1; have HO1 := Lib.hid ho1; have HG1 := Lib.hid hg1; clear hc1 ho1 hg1))
    have e1 : IntKind.i64.wrap ((fr1 : Int) + (L.length : Int)) = (fr1 : Int) + L.length := IntWalk.i64_in _ (by omega)
    obtain ⟨q, hq⟩ : ∃ q, q = (fr1 + L.length) % r1.length := ⟨_, rfl⟩
    have hq1 : q < r1.length := by rw [hq]; exact Nat.mod_lt _ (by omega)
    have e2 : ((fr1 : Int) + (L.length : Int)).tmod (r1.length : Int) = (q : Int) := by
      rw [hq, Int.natCast_emod, Int.natCast_add, Int.tmod_eq_emod_of_nonneg (by omega)]
    have HQ := Lib.hid hq
    clear hq
    have hR : ¬ (r1.length : Int) = 0 := by omega
    have hR1 : ¬ r1 = [] := fun e => by rw [e] at hfr; simp at hfr
    go_quiet (fail)
    generalize hwq : w1.drewN nq = wq
    have hc2 : Ch wq p (some gk) r1 fr1 bound high low L stop := by rw [← hwq]; exact HC1.out.drawn (Drawn.of w1 nq)
    have ho2 : Only (fun k => k = p) w wq := by rw [← hwq]; exact (((Drawn.of w n1).only (fun k => k = p)).trans HO1.out (fun _ _ h => h)).drewN nq
    have g3 := hc2.blk.cell 3 _ rfl
    simp only [ringVal] at g3
    have HC2 := Lib.hid hc2
    have HO2 := Lib.hid ho2
    clear e1 e2 d3 d4 d5 hwq hc2 ho2 HC1 HO1
    obtain ⟨m, hm⟩ : ∃ m, m = min k (r1.length - q) := ⟨_, rfl⟩
    have hq2 : q ≤ r1.length := by omega
    have hq3 : ¬ r1.length = q := by omega
    have hcap0 : ¬ cap = 0 := by omega
    have hgk : gb ≠ gk := HGB.out gk HG1.out
    have hs1' := HCB.out.only HO2.out (fun b o e => by cases e; exact hgbp)
    have HS1 := Lib.hid hs1'
    have l1 : (bytes ((M.drop 0).take m)).length = m := by rw [bytes_length]; simp only [List.length_take, List.length_drop]; omega
    have l2 : (bytes ((M.drop m).take (k - m))).length = k - m := by rw [bytes_length]; simp only [List.length_take, List.length_drop]; omega
    have hm1 : m ≤ k := by omega
    have HM := Lib.hid hm
    have HL1 := Lib.hid l1
    have HL2 := Lib.hid l2
    clear hm hs1' l1 l2
    go_wp2
    go_still_tail 9, (by kernel_rfl)
    refine wpList_copy_blk rfl (.tmp 43) (.tmp 46) 33 33 rfl 5 Try.underlying33 (by kernel_rfl) _ _ _ _ _ _ rfl rfl gk q _ 5 ((HC2.out.ring gk rfl).1) (bytes ((M.drop 0).take m)) (by rw [HL1.out]; exact HM.out) (fun _ => ⟨rfl, _, rfl, srcs0 (HS1.out.cells hM0) m⟩) (by rw [HL1.out, bytes_length, HM.out]; omega) (bytes_one _) ?_
    intro w2 hb2 ho2
    rw [bytes_splice] at hb2
    have ho2' := ho2.undrawn (w := wq)
    have hgkp := (HC2.out.ring gk rfl).2.1
    have hbp2 := HC2.out.blk.only ho2' (fun e => hgkp e.symm)
    have k3 := hbp2.cell 3 _ rfl
    simp only [ringVal] at k3
    have hs2 := HS1.out.only ho2' (fun b o e => by cases e; exact hgk)
    have HB2 := Lib.hid hb2
    have HO3 := Lib.hid ho2'
    have HP2 := Lib.hid hbp2
    have HS2 := Lib.hid hs2
    clear hb2 ho2 ho2' hbp2 hs2 g3
    rw [HL1.out]
    have l3 : (splice r1 q ((M.drop 0).take m)).length = r1.length := by
      have := HL1.out
      rw [bytes_length] at this
      exact length_splice _ _ _ (by rw [this, HM.out]; omega)
    have HL3 := Lib.hid l3
    clear l3
    rcases (show (cap = m ∧ m = k) ∨ ¬ cap = m by omega) with ⟨hcm, hmk⟩ | hcm
    · obtain rfl : m = k := hmk
      obtain rfl : cap = m := hcm
      go_wp2
      go_still_tail 8, (by kernel_rfl)
      refine wpList_copy_blk rfl (.tmp 51) (.tmp 55) 33 33 rfl 5 Try.underlying33 (by kernel_rfl) _ _ _ _ _ _ rfl rfl gk 0 _ 5 HB2.out (bytes ((M.drop cap).take (cap - cap))) (by rw [HL2.out]; omega) (fun h0 => by rw [HL2.out] at h0; omega) (by rw [HL2.out, bytes_length, HL3.out]; omega) (bytes_one _) ?_
      intro w3 hb3 ho3
      rw [bytes_splice] at hb3
      have ho3' := ho3.undrawn (w := w2)
      have hbp3 := HP2.out.only ho3' (fun e => hgkp e.symm)
      have k5 := hbp3.cell 5 _ rfl
      have f5 := hbp3.free 5
      have HB3 := Lib.hid hb3
      have HO4 := Lib.hid ho3'
      have HP3 := Lib.hid hbp3
      clear hb3 ho3 ho3' hbp3 k3
      go_wp2
      generalize hw4 : w3.setCell ⟨p, 5, none⟩ (.int .i64 ((L.length : Int) + (cap : Int))) = w4
      have hbp4 := HP3.out.set 5 (.int .i64 ((L.length : Int) + (cap : Int)))
      rw [hw4] at hbp4
      have ho4 : Only (fun k => k = p) w3 w4 := by rw [← hw4]; exact (Only.refl (fun k => k = p) w3).setCell (p := ⟨p, 5, none⟩) (fun _ => rfl) _
      have j1 := hbp4.cell 1 _ rfl
      have j5 := hbp4.cell 5 _ rfl
      have j6 := hbp4.cell 6 _ rfl
      have f6 := hbp4.free 6
      have HP4 := Lib.hid hbp4
      have HO5 := Lib.hid ho4
      clear hw4 hbp4 ho4 k5 f5
      rcases hsc with hst | ⟨hst, hhi⟩ | ⟨hst, hhi⟩
      · have HPS := Lib.hid (show (stop || decide (high ≤ L.length + cap)) = true by rw [hst]; rfl)
        rw [hst] at j6
        clear hst
        go_region
        go_wp2
        go_ret
        rw [HPS.out]
        exact ⟨rfl, put_fin H.out HC2.out HG1.out HO2.out (HO3.out.trans HO4.out (fun _ _ h => h)) ((HO5.out.drew).setCell (p := ⟨p, 6, none⟩) (fun _ => rfl) _) HB3.out (by rw [HLEN.out]; exact HP4.out.drew.set 6 _) hkM hs1 hk1 HQ.out HM.out⟩
      · have hd1 : decide ((high : Int) ≤ (L.length : Int) + (cap : Int)) = true := decide_eq_true (by omega)
        have HPS := Lib.hid (show (stop || decide (high ≤ L.length + cap)) = true by rw [hst]; simp; omega)
        rw [hst] at j6
        clear hst
        go_region
        go_wp2
        go_ret
        rw [HPS.out]
        exact ⟨rfl, put_fin H.out HC2.out HG1.out HO2.out (HO3.out.trans HO4.out (fun _ _ h => h)) ((HO5.out.drew).setCell (p := ⟨p, 6, none⟩) (fun _ => rfl) _) HB3.out (by rw [HLEN.out]; exact HP4.out.drew.set 6 _) hkM hs1 hk1 HQ.out HM.out⟩
      · have hd1 : decide ((high : Int) ≤ (L.length : Int) + (cap : Int)) = false := decide_eq_false (by omega)
        have HPS := Lib.hid (show (stop || decide (high ≤ L.length + cap)) = false by rw [hst]; simp; omega)
        rw [hst] at j6
        clear hst
        go_region
        go_wp2
        go_ret
        rw [HPS.out]
        exact ⟨rfl, put_fin H.out HC2.out HG1.out HO2.out (HO3.out.trans HO4.out (fun _ _ h => h)) ((HO5.out.drew).setCell (p := ⟨p, 6, none⟩) (fun _ => rfl) _) HB3.out (by rw [HLEN.out]; exact HP4.out.drew.set 6 _) hkM hs1 hk1 HQ.out HM.out⟩
    · go_wp2
      go_still_tail 8, (by kernel_rfl)
      refine wpList_copy_blk rfl (.tmp 51) (.tmp 55) 33 33 rfl 5 Try.underlying33 (by kernel_rfl) _ _ _ _ _ _ rfl rfl gk 0 _ 5 HB2.out (bytes ((M.drop m).take (k - m))) (by rw [HL2.out]; omega) (fun h0 => ⟨rfl, _, rfl, srcs (HS2.out.cells hM0) m (k - m)⟩) (by rw [HL2.out, bytes_length, HL3.out]; omega) (bytes_one _) ?_
      intro w3 hb3 ho3
      rw [bytes_splice] at hb3
      have ho3' := ho3.undrawn (w := w2)
      have hbp3 := HP2.out.only ho3' (fun e => hgkp e.symm)
      have k5 := hbp3.cell 5 _ rfl
      have f5 := hbp3.free 5
      have HB3 := Lib.hid hb3
      have HO4 := Lib.hid ho3'
      have HP3 := Lib.hid hbp3
      clear hb3 ho3 ho3' hbp3 k3
      go_wp2
      generalize hw4 : w3.setCell ⟨p, 5, none⟩ (.int .i64 ((L.length : Int) + (k : Int))) = w4
      have hbp4 := HP3.out.set 5 (.int .i64 ((L.length : Int) + (k : Int)))
      rw [hw4] at hbp4
      have ho4 : Only (fun k => k = p) w3 w4 := by rw [← hw4]; exact (Only.refl (fun k => k = p) w3).setCell (p := ⟨p, 5, none⟩) (fun _ => rfl) _
      have j1 := hbp4.cell 1 _ rfl
      have j5 := hbp4.cell 5 _ rfl
      have j6 := hbp4.cell 6 _ rfl
      have f6 := hbp4.free 6
      have HP4 := Lib.hid hbp4
      have HO5 := Lib.hid ho4
      clear hw4 hbp4 ho4 k5 f5
      rcases hsc with hst | ⟨hst, hhi⟩ | ⟨hst, hhi⟩
      · have HPS := Lib.hid (show (stop || decide (high ≤ L.length + k)) = true by rw [hst]; rfl)
        rw [hst] at j6
        clear hst
        go_region
        go_wp2
        go_ret
        rw [HPS.out]
        exact ⟨rfl, put_fin H.out HC2.out HG1.out HO2.out (HO3.out.trans HO4.out (fun _ _ h => h)) ((HO5.out.drew).setCell (p := ⟨p, 6, none⟩) (fun _ => rfl) _) HB3.out (by rw [HLEN.out]; exact HP4.out.drew.set 6 _) hkM hs1 hk1 HQ.out HM.out⟩
      · have hd1 : decide ((high : Int) ≤ (L.length : Int) + (k : Int)) = true := decide_eq_true (by omega)
        have HPS := Lib.hid (show (stop || decide (high ≤ L.length + k)) = true by rw [hst]; simp; omega)
        rw [hst] at j6
        clear hst
        go_region
        go_wp2
        go_ret
        rw [HPS.out]
        exact ⟨rfl, put_fin H.out HC2.out HG1.out HO2.out (HO3.out.trans HO4.out (fun _ _ h => h)) ((HO5.out.drew).setCell (p := ⟨p, 6, none⟩) (fun _ => rfl) _) HB3.out (by rw [HLEN.out]; exact HP4.out.drew.set 6 _) hkM hs1 hk1 HQ.out HM.out⟩
      · have hd1 : decide ((high : Int) ≤ (L.length : Int) + (k : Int)) = false := decide_eq_false (by omega)
        have HPS := Lib.hid (show (stop || decide (high ≤ L.length + k)) = false by rw [hst]; simp; omega)
        rw [hst] at j6
        clear hst
        go_region
        go_wp2
        go_ret
        rw [HPS.out]
        exact ⟨rfl, put_fin H.out HC2.out HG1.out HO2.out (HO3.out.trans HO4.out (fun _ _ h => h)) ((HO5.out.drew).setCell (p := ⟨p, 6, none⟩) (fun _ => rfl) _) HB3.out (by rw [HLEN.out]; exact HP4.out.drew.set 6 _) hkM hs1 hk1 HQ.out HM.out⟩
  · have hkk2 : (bound : Int) - L.length = k := by omega
    have HK := Lib.hid hkk2
    clear hkk hkk2
    go_enter Try.func11, Try.ntmps11
    go_wp2_with (first
      | (go_at_call 21; (with_reducible refine (room_any H.out).mono ?_); rintro e w' ⟨rfl, n1, rfl⟩; rw [HK.out])
      | (go_at_call 23; (with_reducible refine (grow_at (H.out.drawn (Drawn.of w n1)) _ (L.length + k) (by omega) (by omega) hkB).mono ?_); rintro e w1 ⟨rfl, hgr⟩; obtain ⟨g1, r1, fr1, hc1, hs1, ho1, hg1⟩ := hgr; obtain ⟨gk, rfl⟩ := put_ring hc1 hs1 hk1; have d3 := hc1.blk.cell 3 _ rfl; simp only [ringVal] at d3; have d4 := hc1.blk.cell 4 _ rfl; have d5 := hc1.blk.cell 5 _ rfl; have hfr := (hc1.ring gk rfl).2.2; have m1 := hc1.max; have HC1 := Lib.hid hc1; have HO1 := Lib.hid ho1; have HG1 := Lib.hid hg1; clear hc1 ho1 hg1))
    have e1 : IntKind.i64.wrap ((fr1 : Int) + (L.length : Int)) = (fr1 : Int) + L.length := IntWalk.i64_in _ (by omega)
    obtain ⟨q, hq⟩ : ∃ q, q = (fr1 + L.length) % r1.length := ⟨_, rfl⟩
    have hq1 : q < r1.length := by rw [hq]; exact Nat.mod_lt _ (by omega)
    have e2 : ((fr1 : Int) + (L.length : Int)).tmod (r1.length : Int) = (q : Int) := by
      rw [hq, Int.natCast_emod, Int.natCast_add, Int.tmod_eq_emod_of_nonneg (by omega)]
    have HQ := Lib.hid hq
    clear hq
    have hR : ¬ (r1.length : Int) = 0 := by omega
    have hR1 : ¬ r1 = [] := fun e => by rw [e] at hfr; simp at hfr
    go_quiet (fail)
    generalize hwq : w1.drewN nq = wq
    have hc2 : Ch wq p (some gk) r1 fr1 bound high low L stop := by rw [← hwq]; exact HC1.out.drawn (Drawn.of w1 nq)
    have ho2 : Only (fun k => k = p) w wq := by rw [← hwq]; exact (((Drawn.of w n1).only (fun k => k = p)).trans HO1.out (fun _ _ h => h)).drewN nq
    have g3 := hc2.blk.cell 3 _ rfl
    simp only [ringVal] at g3
    have HC2 := Lib.hid hc2
    have HO2 := Lib.hid ho2
    clear e1 e2 d3 d4 d5 hwq hc2 ho2 HC1 HO1
    obtain ⟨m, hm⟩ : ∃ m, m = min k (r1.length - q) := ⟨_, rfl⟩
    have hq2 : q ≤ r1.length := by omega
    have hq3 : ¬ r1.length = q := by omega
    have hcap0 : ¬ cap = 0 := by omega
    have hgk : gb ≠ gk := HGB.out gk HG1.out
    have hs1' := HCB.out.only HO2.out (fun b o e => by cases e; exact hgbp)
    have HS1 := Lib.hid hs1'
    have l1 : (bytes ((M.drop 0).take m)).length = m := by rw [bytes_length]; simp only [List.length_take, List.length_drop]; omega
    have l2 : (bytes ((M.drop m).take (k - m))).length = k - m := by rw [bytes_length]; simp only [List.length_take, List.length_drop]; omega
    have hm1 : m ≤ k := by omega
    have HM := Lib.hid hm
    have HL1 := Lib.hid l1
    have HL2 := Lib.hid l2
    clear hm hs1' l1 l2
    go_wp2
    go_still_tail 9, (by kernel_rfl)
    refine wpList_copy_blk rfl (.tmp 43) (.tmp 46) 33 33 rfl 5 Try.underlying33 (by kernel_rfl) _ _ _ _ _ _ rfl rfl gk q _ 5 ((HC2.out.ring gk rfl).1) (bytes ((M.drop 0).take m)) (by rw [HL1.out]; exact HM.out) (fun _ => ⟨rfl, _, rfl, srcs0 (HS1.out.cells hM0) m⟩) (by rw [HL1.out, bytes_length, HM.out]; omega) (bytes_one _) ?_
    intro w2 hb2 ho2
    rw [bytes_splice] at hb2
    have ho2' := ho2.undrawn (w := wq)
    have hgkp := (HC2.out.ring gk rfl).2.1
    have hbp2 := HC2.out.blk.only ho2' (fun e => hgkp e.symm)
    have k3 := hbp2.cell 3 _ rfl
    simp only [ringVal] at k3
    have hs2 := HS1.out.only ho2' (fun b o e => by cases e; exact hgk)
    have HB2 := Lib.hid hb2
    have HO3 := Lib.hid ho2'
    have HP2 := Lib.hid hbp2
    have HS2 := Lib.hid hs2
    clear hb2 ho2 ho2' hbp2 hs2 g3
    rw [HL1.out]
    have l3 : (splice r1 q ((M.drop 0).take m)).length = r1.length := by
      have := HL1.out
      rw [bytes_length] at this
      exact length_splice _ _ _ (by rw [this, HM.out]; omega)
    have HL3 := Lib.hid l3
    clear l3
    rcases (show (cap = m ∧ m = k) ∨ ¬ cap = m by omega) with ⟨hcm, hmk⟩ | hcm
    · exfalso
      have := HK.out
      omega
    · go_wp2
      go_still_tail 8, (by kernel_rfl)
      refine wpList_copy_blk rfl (.tmp 51) (.tmp 55) 33 33 rfl 5 Try.underlying33 (by kernel_rfl) _ _ _ _ _ _ rfl rfl gk 0 _ 5 HB2.out (bytes ((M.drop m).take (k - m))) (by rw [HL2.out]; omega) (fun h0 => ⟨rfl, _, rfl, srcs (HS2.out.cells hM0) m (k - m)⟩) (by rw [HL2.out, bytes_length, HL3.out]; omega) (bytes_one _) ?_
      intro w3 hb3 ho3
      rw [bytes_splice] at hb3
      have ho3' := ho3.undrawn (w := w2)
      have hbp3 := HP2.out.only ho3' (fun e => hgkp e.symm)
      have k5 := hbp3.cell 5 _ rfl
      have f5 := hbp3.free 5
      have HB3 := Lib.hid hb3
      have HO4 := Lib.hid ho3'
      have HP3 := Lib.hid hbp3
      clear hb3 ho3 ho3' hbp3 k3
      go_wp2
      generalize hw4 : w3.setCell ⟨p, 5, none⟩ (.int .i64 ((L.length : Int) + (k : Int))) = w4
      have hbp4 := HP3.out.set 5 (.int .i64 ((L.length : Int) + (k : Int)))
      rw [hw4] at hbp4
      have ho4 : Only (fun k => k = p) w3 w4 := by rw [← hw4]; exact (Only.refl (fun k => k = p) w3).setCell (p := ⟨p, 5, none⟩) (fun _ => rfl) _
      have j1 := hbp4.cell 1 _ rfl
      have j5 := hbp4.cell 5 _ rfl
      have j6 := hbp4.cell 6 _ rfl
      have f6 := hbp4.free 6
      have HP4 := Lib.hid hbp4
      have HO5 := Lib.hid ho4
      clear hw4 hbp4 ho4 k5 f5
      rcases hsc with hst | ⟨hst, hhi⟩ | ⟨hst, hhi⟩
      · have HPS := Lib.hid (show (stop || decide (high ≤ L.length + k)) = true by rw [hst]; rfl)
        rw [hst] at j6
        clear hst
        go_region
        go_wp2
        go_ret
        rw [HPS.out]
        exact ⟨rfl, put_fin H.out HC2.out HG1.out HO2.out (HO3.out.trans HO4.out (fun _ _ h => h)) ((HO5.out.drew).setCell (p := ⟨p, 6, none⟩) (fun _ => rfl) _) HB3.out (by rw [HLEN.out]; exact HP4.out.drew.set 6 _) hkM hs1 hk1 HQ.out HM.out⟩
      · have hd1 : decide ((high : Int) ≤ (L.length : Int) + (k : Int)) = true := decide_eq_true (by omega)
        have HPS := Lib.hid (show (stop || decide (high ≤ L.length + k)) = true by rw [hst]; simp; omega)
        rw [hst] at j6
        clear hst
        go_region
        go_wp2
        go_ret
        rw [HPS.out]
        exact ⟨rfl, put_fin H.out HC2.out HG1.out HO2.out (HO3.out.trans HO4.out (fun _ _ h => h)) ((HO5.out.drew).setCell (p := ⟨p, 6, none⟩) (fun _ => rfl) _) HB3.out (by rw [HLEN.out]; exact HP4.out.drew.set 6 _) hkM hs1 hk1 HQ.out HM.out⟩
      · have hd1 : decide ((high : Int) ≤ (L.length : Int) + (k : Int)) = false := decide_eq_false (by omega)
        have HPS := Lib.hid (show (stop || decide (high ≤ L.length + k)) = false by rw [hst]; simp; omega)
        rw [hst] at j6
        clear hst
        go_region
        go_wp2
        go_ret
        rw [HPS.out]
        exact ⟨rfl, put_fin H.out HC2.out HG1.out HO2.out (HO3.out.trans HO4.out (fun _ _ h => h)) ((HO5.out.drew).setCell (p := ⟨p, 6, none⟩) (fun _ => rfl) _) HB3.out (by rw [HLEN.out]; exact HP4.out.drew.set 6 _) hkM hs1 hk1 HQ.out HM.out⟩
end
end Go.Proofs.Ytpkaaadnolmidaa
