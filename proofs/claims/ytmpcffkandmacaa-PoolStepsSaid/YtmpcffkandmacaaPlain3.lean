/- What stays over the steps; what a step does; whose each connection is. -/
import Derived.Test.YtmpcffkandmacaaWalks13
namespace Go.Proofs.Ytmpcffkandmacaa
open Go.RowKit
set_option linter.unusedVariables false

/-- None waits while there is room. -/
def Tight (P : Pp) : Prop := P.waits = [] ∨ P.cap ≤ P.l.length
structure Inv (P : Pp) (k : Nat) : Prop where
  ok : Okp P k
  t : Tight P
theorem Inv.mono {P : Pp} {k m : Nat} (h : Inv P k) (hm : k ≤ m) : Inv P m := ⟨h.ok.mono hm, h.t⟩
theorem inv_serve {P : Pp} {k now : Nat} (h : Okp P k) (hn : now ≤ 4611686018427387904) : Inv (serve P now).1 k :=
  ⟨(serve_ok hn _ rfl h).1, (serve_ok hn _ rfl h).2.1⟩
theorem serve_caps {P : Pp} {k now : Nat} (h : Okp P k) (hn : now ≤ 4611686018427387904) : (serve P now).1.cap = P.cap ∧ (serve P now).1.pend = P.pend :=
  ⟨(serve_ok hn _ rfl h).2.2.1, (serve_ok hn _ rfl h).2.2.2.1⟩
/-- A step's numbers stay. -/
def Same (P Q : Pp) : Prop := Q.cap = P.cap ∧ Q.pend = P.pend
theorem serve_same {P Q : Pp} {k now : Nat} (h : Okp Q k) (hn : now ≤ 4611686018427387904) (hs : Same P Q) : Same P (serve Q now).1 :=
  ⟨(serve_caps h hn).1.trans hs.1, (serve_caps h hn).2.trans hs.2⟩
theorem moment_nat {now : Int} (h : isMoment now) : now.toNat ≤ 4611686018427387904 := by have := h.2; omega
theorem ask_inv {P : Pp} {k : Nat} (h : Inv P k) (now who : Int) : Inv (ask P now who).1 (k + 1) ∧ Same P (ask P now who).1 := by
  have h0 : Inv P (k + 1) ∧ Same P P := ⟨h.mono (Nat.le_succ k), rfl, rfl⟩
  unfold ask
  split
  · exact h0
  · rename_i hb
    have hm : isMoment now := Classical.byContradiction fun e => hb (.inl e)
    split
    · exact h0
    · obtain ⟨e1, e2, e3, e4, e5, e6⟩ := give_keeps (P := P) (now := now.toNat) (who := who)
      obtain ⟨g1, g2, g3⟩ := give_l (who := who) h.ok.t (moment_nat hm) h.ok.c
      have gn := give_okn (now := now.toNat) (who := who) h.ok.n
      split
      · rename_i P2 a hg
        rw [hg] at e1 e2 e3 e4 e5 e6 g1 g2 g3 gn
        simp only at e1 e2 e3 e4 e5 e6 g1 g2 g3 gn
        have hl : P.l.length ≤ P2.l.length := by
          have : P2 = (give P now.toNat who).1 := by rw [hg]
          rw [this]
          unfold give
          split
          · simp
          · split
            · exact Nat.le_refl _
            · simp
        refine ⟨⟨⟨gn, g1, g2, by rw [e1, e3]; exact h.ok.p, by show P2.next + P2.waits.length ≤ k + 1; have := h.ok.x; rw [e1]; omega, by show P2.rested ≤ k + 1; have := h.ok.r; rw [e6]; omega⟩, ?_⟩, e2, e3⟩
        rcases h.t with ht | ht
        · exact .inl (by rw [e1]; exact ht)
        · exact .inr (by rw [e2]; exact Nat.le_trans ht hl)
      · rename_i P2 hg
        obtain ⟨rfl, hc, _⟩ := give_none hg
        split
        · exact h0
        · rename_i hp
          refine ⟨⟨⟨⟨h.ok.n.c, h.ok.n.d, h.ok.n.i, h.ok.n.f⟩, h.ok.t, h.ok.c, ?_, ?_, Nat.le_succ_of_le h.ok.r⟩, .inr hc⟩, rfl, rfl⟩
          · show (P2.waits ++ [who]).length ≤ P2.pend
            rw [List.length_append, List.length_singleton]; omega
          · show P2.next + (P2.waits ++ [who]).length ≤ k + 1
            have := h.ok.x
            rw [List.length_append, List.length_singleton]; omega
theorem up_inv {P : Pp} {k : Nat} (h : Inv P k) (n : Int) : Inv (up P n).1 k ∧ Same P (up P n).1 := by
  unfold up
  split
  · exact ⟨h, rfl, rfl⟩
  · rename_i i hi
    split
    · have ht := h.ok.t _ (cnAt_mem (atI_lt hi))
      refine ⟨⟨⟨⟨h.ok.n.c, h.ok.n.d, h.ok.n.i, h.ok.n.f⟩, okT_set h.ok.t (i := i) rfl ⟨ht.1, ht.2.1, (by decide : 1 ≤ 2)⟩, by simpa using h.ok.c, h.ok.p, h.ok.x, h.ok.r⟩, ?_⟩, rfl, rfl⟩
      rcases h.t with ht | ht
      · exact .inl ht
      · exact .inr (by simpa using ht)
    · exact ⟨h, rfl, rfl⟩
theorem gone_inv {P : Pp} {k : Nat} (h : Inv P k) (now n : Int) : Inv (gone P now n).1 k ∧ Same P (gone P now n).1 := by
  unfold gone
  split
  · exact ⟨h, rfl, rfl⟩
  · rename_i hm
    have hm : isMoment now := Classical.byContradiction fun e => hm e
    split
    · exact ⟨h, rfl, rfl⟩
    · rename_i i hi
      exact ⟨inv_serve (cut_ok h.ok) (moment_nat hm), serve_same (cut_ok h.ok) (moment_nat hm) ⟨rfl, rfl⟩⟩
theorem done_inv {P : Pp} {k : Nat} (h : Inv P k) (now n : Int) (keep : Bool) : Inv (done P now n keep).1 (k + 1) ∧ Same P (done P now n keep).1 := by
  have h0 : Inv P (k + 1) ∧ Same P P := ⟨h.mono (Nat.le_succ k), rfl, rfl⟩
  unfold done
  split
  · exact h0
  · rename_i hm
    have hm : isMoment now := Classical.byContradiction fun e => hm e
    split
    · exact h0
    · rename_i i hi
      split
      · exact h0
      · split
        · exact ⟨(inv_serve (cut_ok h.ok) (moment_nat hm)).mono (Nat.le_succ k), serve_same (cut_ok h.ok) (moment_nat hm) ⟨rfl, rfl⟩⟩
        · have hr := rest_ok (now := now.toNat) h.ok (atI_lt hi) (moment_nat hm)
          exact ⟨inv_serve hr (moment_nat hm), serve_same hr (moment_nat hm) ⟨rfl, rfl⟩⟩
theorem drop_inv {P : Pp} {k : Nat} (h : Inv P k) (now who : Int) : Inv (drop P now who).1 k ∧ Same P (drop P now who).1 := by
  unfold drop
  split
  · exact ⟨h, rfl, rfl⟩
  · rename_i hm
    have hm : isMoment now := Classical.byContradiction fun e => hm e
    split
    · exact ⟨inv_serve (dropW_ok h.ok) (moment_nat hm), serve_same (dropW_ok h.ok) (moment_nat hm) ⟨rfl, rfl⟩⟩
    · split
      · exact ⟨h, rfl, rfl⟩
      · exact ⟨inv_serve (cut_ok h.ok) (moment_nat hm), serve_same (cut_ok h.ok) (moment_nat hm) ⟨rfl, rfl⟩⟩
theorem expL_ok {P : Pp} {k now : Nat} (h : Okp P k) : Okp (expireL P now) k := by rw [← exP_all]; exact exP_ok h
theorem expire_inv {P : Pp} {k : Nat} (h : Inv P k) (now : Int) : Inv (expire P now).1 k ∧ Same P (expire P now).1 := by
  unfold expire
  split
  · exact ⟨h, rfl, rfl⟩
  · rename_i hm
    have hm : isMoment now := Classical.byContradiction fun e => hm e
    exact ⟨inv_serve (expL_ok h.ok) (moment_nat hm), serve_same (expL_ok h.ok) (moment_nat hm) ⟨rfl, rfl⟩⟩

/-- A step. -/
def doesL (P : Pp) (kind who now : Int) : Pp × List Ac × Bool :=
  if kind = 0 then ((ask P now who).1, if (ask P now who).2.2 = 0 then [(ask P now who).2.1] else [], false)
  else if kind = 1 then ((up P who).1, [], false)
  else if kind = 2 then ((gone P now who).1, (gone P now who).2.2.1, (gone P now who).2.2.2 == 0)
  else if kind = 3 then ((done P now who true).1, (done P now who true).2.1, (done P now who true).2.2 == 0)
  else if kind = 4 then ((done P now who false).1, (done P now who false).2.1, (done P now who false).2.2 == 0)
  else if kind = 5 then ((drop P now who).1, (drop P now who).2.1, false)
  else ((expire P now).1, (expire P now).2.1, false)
theorem does_inv {P : Pp} {k : Nat} (h : Inv P k) (kind who now : Int) : Inv (doesL P kind who now).1 (k + 1) ∧ Same P (doesL P kind who now).1 := by
  have up1 : ∀ {Q : Pp}, Inv Q k ∧ Same P Q → Inv Q (k + 1) ∧ Same P Q := fun {Q} h => ⟨h.1.mono (Nat.le_succ k), h.2⟩
  unfold doesL
  split
  · exact ask_inv h now who
  split
  · exact up1 (up_inv h who)
  split
  · exact up1 (gone_inv h now who)
  split
  · exact done_inv h now who true
  split
  · exact done_inv h now who false
  split
  · exact up1 (drop_inv h now who)
  · exact up1 (expire_inv h now)
end Go.Proofs.Ytmpcffkandmacaa
