/- give in one; serve. -/
import Derived.Test.YtmpcffkandmacaaPlain2
namespace Go.Proofs.Ytmpcffkandmacaa
open Go.RowKit
set_option linter.unusedVariables false
set_option linter.unusedSimpArgs false

section
variable {F : Nat → Prop} {w0 w : World} {lo p : Nat} {P : Pp} {X : List (Nat × Cn)} {vl vw : Value}
theorem give_any (h : Pw w lo p P X vl vw) (hn : OkN P) (ht : OkT P) (now : Nat) (who : Int) (hx : P.next < 9223372036854775807) :
    Calls Try.prog 26 #[ptr p, .int .i64 now, .int .i64 who] w fun e w' => e = .returned (gvV (give P now who).2) ∧ PP (foot p X vl vw) w w' lo p (give P now who).1 := by
  unfold give
  cases hb : bestU P now P.l.length with
  | some i => exact give_some h hn ht now who hb
  | none =>
    by_cases hc : P.cap ≤ P.l.length
    · simp only [if_pos hc]
      exact give_full h hn ht now who hb hc
    · simp only [if_neg hc]
      exact give_new h hn ht now who hb hc hx

/-- A row of another type lies apart from the pool. -/
theorem Pw.row_ne (h : Pw w lo p P X vl vw) {b e size n : Nat} {v : Value} {xs : List Value} (hr : w.ownsRow b e size v n xs) (h1 : e ≠ 63) (h2 : e ≠ 71) (h3 : e ≠ 65) (h4 : e ≠ 3) : ∀ k, v.ownBlock = some k → ¬ foot p X vl vw k := fun k hk => by
  rcases hr.2 with ⟨rfl, _⟩ | ⟨g, cap, cur, rfl, _, hg, _⟩
  · cases hk
  · simp only [Value.ownBlock, Option.some.injEq] at hk
    subst hk
    exact h.not_ (q := g) (t := e) (cs := cur.toList) hg h1 h2 h3 h4
theorem PP.row {w' : World} {P' : Pp} (h : Pw w lo p P X vl vw) (k : PP (foot p X vl vw) w w' lo p P') {b n : Nat} {v : Value} {xs : List Value} (hr : w.ownsRow b 27 3 v n xs) : w'.ownsRow b 27 3 v n xs := by
  obtain ⟨_, _, _, _, hm⟩ := k
  exact owns_only hr hm.only (h.row_ne hr (by decide) (by decide) (by decide) (by decide))
theorem PP.then_ {w' : World} {P' : Pp} (hm : Mv F (foot p X vl vw) w0 w) (k : PP (foot p X vl vw) w w' lo p P') : PP F w0 w' lo p P' := by
  obtain ⟨X', vl', vw', h, hm'⟩ := k
  exact ⟨X', vl', vw', h, hm.trans hm'⟩
/-- What is turned beside the pool does not touch it. -/
theorem PP.only {S : Nat → Prop} {w' : World} (h : PP F w0 w lo p P) (ho : Only S w w') (hS : ∀ k, S k → w0.heap.size ≤ k) (hd : ∀ X vl vw, Pw w lo p P X vl vw → ∀ k, foot p X vl vw k → ¬ S k) : PP F w0 w' lo p P := by
  obtain ⟨X, vl, vw, h, hm⟩ := h
  exact ⟨X, vl, vw, h.only ho (hd X vl vw h), hm.then_ ho hS⟩
theorem PP.only0 {w' : World} (h : PP F w0 w lo p P) (ho : Only (fun _ => False) w w') : PP F w0 w' lo p P := h.only ho (fun k hk => hk.elim) (fun _ _ _ _ _ _ h => h)
theorem PP.size (h : PP F w0 w lo p P) : w0.heap.size ≤ w.heap.size := by
  obtain ⟨_, _, _, _, hm⟩ := h
  exact hm.only.size

theorem WRow.tailI {w : World} {lo : Nat} {u : Int} {l : List Int} {g off n cap : Nat} (h : WRow w lo (.slice (some ⟨g, off, none⟩) n cap) (u :: l)) : WRow w lo (.slice (if l = [] then some ⟨g, off, none⟩ else some ⟨g, off + 1, none⟩) l.length l.length) l := by
  have hn : n = (u :: l).length := by
    obtain ⟨_, _, e, _⟩ := h.slice
    injection e
  subst hn
  by_cases h0 : l = []
  · subst h0
    rw [if_pos rfl]
    rcases h with h | ⟨g', off', cs, e, h1, h2, h3, h4, h5⟩
    · obtain ⟨g', cap', C, e, a1, a2, a3, a4, a5⟩ := ownsRow_blk h (by simp)
      injection e with e1 _ e3
      injection e1 with e1
      injection e1 with e1 e2
      subst e1 e2 e3
      exact .inr ⟨g, 0, _, rfl, a1, a2, by simp, by unfold maxLen; simp, fun i hi => absurd hi (Nat.not_lt_zero _)⟩
    · injection e with e1 _ e3
      injection e1 with e1
      injection e1 with e1 e2
      subst e1 e2
      exact .inr ⟨g, off, cs, rfl, h1, h2, by simp only [List.length_cons, List.length_nil] at h3 ⊢; omega, by unfold maxLen; simp, fun i hi => absurd hi (Nat.not_lt_zero _)⟩
  · rw [if_neg h0]
    exact h.tail
/-- p.waits = p.waits[1:n:n]. -/
theorem Pw.tailW {u : Int} {us : List Int} {g off n cap : Nat} (h : Pw w lo p P X vl (.slice (some ⟨g, off, none⟩) n cap)) (hr : WRow w lo (.slice (some ⟨g, off, none⟩) n cap) (u :: us)) :
    Pw (w.setCell ⟨p, 7, none⟩ (.slice (if us = [] then some ⟨g, off, none⟩ else some ⟨g, off + 1, none⟩) us.length us.length)) lo p { P with waits := us } X vl (.slice (if us = [] then some ⟨g, off, none⟩ else some ⟨g, off + 1, none⟩) us.length us.length)
    ∧ Mv (foot p X vl (.slice (some ⟨g, off, none⟩) n cap)) (foot p X vl (.slice (if us = [] then some ⟨g, off, none⟩ else some ⟨g, off + 1, none⟩) us.length us.length)) w (w.setCell ⟨p, 7, none⟩ (.slice (if us = [] then some ⟨g, off, none⟩ else some ⟨g, off + 1, none⟩) us.length us.length)) := by
  refine ⟨h.setW (P' := { P with waits := us }) rfl rfl hr.tailI, (only_p w p 7 _).mono (fun k _ hk => .inl hk), fun k hk => .inl ?_⟩
  rcases hk with hk | hk | hk | hk
  · exact .inl hk
  · exact .inr (.inl hk)
  · exact .inr (.inr (.inl hk))
  · refine .inr (.inr (.inr ?_))
    by_cases h0 : us = []
    · rw [if_pos h0] at hk; exact hk
    · rw [if_neg h0] at hk; exact hk

def lenOf : Value → Nat
  | .slice _ n _ => n
  | _ => 0
/-- What stands ahead of a round. -/
structure SvI (F : Nat → Prop) (w0 wr : World) (lo p : Nat) (P1 : Pp) (v : Value) (o1 : List Ac) (now : Nat) (P : Pp) (outs : List Ac) (k : Nat) : Prop where
  pp : PP F w0 wr lo p P1
  ok : Okp P1 k
  row : wr.ownsRow w0.heap.size 27 3 v o1.length (acCells o1)
  len : o1.length + P1.waits.length ≤ 200
  res : (serve P now).1 = (serve P1 now).1
  acs : outs ++ (serve P now).2 = o1 ++ (serve P1 now).2
structure SvP (F : Nat → Prop) (w0 w : World) (lo p : Nat) (P : Pp) (v : Value) (o : List Ac) : Prop where
  pp : PP F w0 w lo p P
  row : w.ownsRow w0.heap.size 27 3 v o.length (acCells o)
theorem SvI.done {wr : World} {P1 : Pp} {v : Value} {o1 outs : List Ac} {now k : Nat} (h : SvI F w0 wr lo p P1 v o1 now P outs k) (he : serve P1 now = (P1, [])) : SvP F w0 wr lo p (serve P now).1 v (outs ++ (serve P now).2) := by
  refine ⟨by rw [h.res, he]; exact h.pp, ?_⟩
  rw [h.acs, he, List.append_nil]
  exact h.row
theorem acV_cells (a : Ac) : (acV a).cells = (acC a).toArray := by kernel_rfl
set_option maxRecDepth 100000 in
set_option maxHeartbeats 1600000 in
theorem serve_any (h : PP F w0 w lo p P) {k : Nat} (hk : Okp P k) (hkl : k < 9223372036854775807) (now : Nat) (hnow : now ≤ 4611686018427387904) {v : Value} {outs : List Ac} (hv : w.ownsRow w0.heap.size 27 3 v outs.length (acCells outs)) (hl : outs.length ≤ 64) :
    Calls Try.prog 30 #[ptr p, .int .i64 now, v] w fun e w' => ∃ v', e = .returned v' ∧ SvP F w0 w' lo p (serve P now).1 v' (outs ++ (serve P now).2) := by
  obtain ⟨i27, hi27, hz0, hz1, hz2⟩ := info_parts Try.info27
  have z27 := zero27
  have HI0 := Lib.hid (show SvI F w0 w lo p P v outs now P outs k from ⟨h, hk, hv, by have := hk.w64; omega, rfl, rfl⟩)
  clear h hk hv hl
  go_enter Try.func30, Try.ntmps30
  go_wp2
  go_loopw [2, 7, 8, 9] (fun v _ _ _ wr => ∃ (P1 : Pp) (o1 : List Ac), SvI F w0 wr lo p P1 v o1 now P outs k) (fun v _ _ _ _ => 200 - lenOf v)
  case atStart => exact ⟨P, outs, HI0.out⟩
  case round =>
    obtain ⟨P1, o1, hI⟩ := hrel
    obtain ⟨X, vl, vw, hp, hm⟩ := hI.pp
    obtain ⟨ao, bc, rfl, hb1, hb2, _, _⟩ := ownsRow_slice hI.row
    have hlen := hI.len
    obtain ⟨aw, cw, rfl, hw1, hw2, _, hw4⟩ := hp.wt.slice
    have d7 := hp.blk.cell 7 _ rfl
    have hpl := hp.blk.lt
    have hcw : cw ≤ 9223372036854775807 := by unfold maxLen at hw2; omega
    cases hw : P1.waits with
    | nil =>
      have HI := Lib.hid hI
      have HW := Lib.hid hw
      rw [hw] at d7 hw1
      clear hI hp hm hw4 hw
      simp only [List.length_nil] at d7 hw1
      go_wp2
      go_ret
      exact ⟨_, rfl, HI.out.done (serve_nil HW.out)⟩
    | cons u us =>
      have HI := Lib.hid hI
      have HW := Lib.hid hw
      rw [hw] at d7 hw1 hw4 hlen
      obtain ⟨g, off, rfl, _, hgl, hc⟩ := hw4 (by simp)
      have c0 := hc 0 (by simp)
      rw [Nat.add_zero] at c0
      have c0 : wr.cell? ⟨g, off, none⟩ = some (.int .i64 u) := c0
      obtain ⟨n, hn⟩ : ∃ n, n = (u :: us).length := ⟨_, rfl⟩
      rw [← hn] at d7 hw1 hlen
      have hn1 : n = us.length + 1 := by rw [hn]; rfl
      have hn2 : (u :: us).length = n := hn.symm
      have HN2 := Lib.hid hn2
      have HP := Lib.hid hp
      have HM := Lib.hid hm
      have hx1 : P1.next < 9223372036854775807 := by have := hI.ok.x; omega
      have hG := give_any hp hI.ok.n hI.ok.t now u hx1
      obtain ⟨P2, og, hg⟩ : ∃ P2 og, give P1 now u = (P2, og) := ⟨_, _, rfl⟩
      rw [hg] at hG
      have HG := Lib.hid hG
      have HGE := Lib.hid hg
      have HN := Lib.hid hn1
      clear hI hp hm hw4 hw hc hn hG hg hx1 hn2
      cases og with
      | none =>
        go_upto_region 4 with (go_at_call 26; (refine HG.out.mono ?_); rintro e w1 ⟨rfl, hP⟩; have HPP := Lib.hid hP; clear hP; simp only [gvV])
        go_ret
        have hP := HPP.out
        have e := serve_stop HW.out HGE.out
        have e2 := (give_none HGE.out).1
        have hoa : Only (fun _ => False) w1 (w1.alloc (Obj.cells #[Value.int IntKind.i64 0, Value.int IntKind.i64 0, Value.int IntKind.i64 0] 27)) := (Only.refl _ _).alloc _
        exact ⟨_, rfl, SvI.done (P1 := P1) ⟨by have h := (PP.then_ HM.out hP).only0 hoa; rw [← e2]; exact h, HI.out.ok, owns_only (PP.row HP.out hP HI.out.row) hoa (fun _ _ h => h), HI.out.len, HI.out.res, HI.out.acs⟩ e⟩
      | some a =>
        have HGA := HG
        go_upto_region 4 with (go_at_call 26; (refine HG.out.mono ?_); rintro e w1 ⟨rfl, hP⟩; have HPP := Lib.hid hP; clear hP; simp only [gvV])
        have hP := HPP.out
        have hrow1 := PP.row HP.out hP HI.out.row
        have hP1 := PP.then_ HM.out hP
        have hoa : Only (fun _ => False) w1 (w1.alloc (Obj.cells #[Value.int .i64 a.kind, Value.int .i64 a.conn, Value.int .i64 a.who] 27)) := (Only.refl _ _).alloc _
        have hba : Blk (w1.alloc (Obj.cells #[Value.int .i64 a.kind, Value.int .i64 a.conn, Value.int .i64 a.who] 27)) w1.heap.size (acC a) 27 := Blk.new w1 (acC a) 27
        have hP2 := hP1.only0 hoa
        have hrow2 := owns_only hrow1 hoa (fun _ _ h => h)
        obtain ⟨q, hq⟩ : ∃ q, q = w1.heap.size := ⟨_, rfl⟩
        rw [← hq] at hba ⊢
        clear hP hrow1 hP1 hoa hq
        generalize w1.alloc (Obj.cells #[Value.int .i64 a.kind, Value.int .i64 a.conn, Value.int .i64 a.who] 27) = w2 at hba hP2 hrow2 ⊢
        have q0 := hba.cell 0 _ rfl
        have q1 := hba.cell 1 _ rfl
        have q2 := hba.cell 2 _ rfl
        have hql := hba.lt
        have HROW := Lib.hid hrow2
        have HP2 := Lib.hid hP2
        have hsz := hP2.size
        clear hrow2 hP2 hba
        have ho9 : o1.length ≤ 199 := by omega
        go_upto_region 5 with (at_builtin; refine wpList_append_row rfl (.tmp 30) (.tmp 32) 32 rfl w0.heap.size 27 i27 _ 3 24 Try.underlying32 hi27 hz0 hz1 hz2 rfl (by decide) (.slice ao o1.length bc) o1.length (acCells o1) rfl (HROW.out.alloc _) (some ⟨w2.heap.size, 0, none⟩) 1 1 (acC a) rfl rfl (fun _ => ⟨_, rfl, cells_new _ _ _⟩) (fun e => by cases e) (fun u hu => ac_one [a] u (by simpa [acCells] using hu)) (by unfold maxLen; omega) (by omega) (by simp only [World.size_alloc]; omega) ?_; intro v9 w9 hown9 hon9 hat9 _; obtain ⟨a9, k9, rfl, _, _, _, _⟩ := ownsRow_slice hown9; have HO9 := Lib.hid hown9; have HN9 := Lib.hid hon9; have HA9 := Lib.hid hat9; clear hown9 hon9 hat9)
        have hPa : PP F w0 (w2.alloc (Obj.cells #[Value.int .i64 a.kind, Value.int .i64 a.conn, Value.int .i64 a.who] 27)) lo p P2 := HP2.out.only0 ((Only.refl _ _).alloc _)
        have hP9 : PP F w0 w9 lo p P2 := hPa.only HN9.out (fun k hk => (ownsRow_lt HROW.out k hk).1) (fun X vl vw h k hk hv => h.row_ne (HROW.out.alloc _) (by decide) (by decide) (by decide) (by decide) k hv hk)
        obtain ⟨X2, vl2, vw2, hp2, hm2⟩ := hP9
        have hw2e : P2.waits = u :: us := by have := (give_keeps (P := P1) (now := now) (who := u)).1; rw [HGE.out] at this; exact this.trans HW.out
        have hwt := hp2.wt
        rw [hw2e] at hwt
        obtain ⟨aw2, cw2, rfl, h1, h2, _, h4⟩ := hwt.slice
        obtain ⟨g2, off2, rfl, _, _, _⟩ := h4 (by simp)
        have e7 := hp2.blk.cell 7 _ rfl
        have f7 := hp2.blk.free 7
        have hpl2 := hp2.blk.lt
        have hcw2 : cw2 ≤ 9223372036854775807 := by unfold maxLen at h2; omega
        have HWT := Lib.hid hwt
        have HP9 := Lib.hid hp2
        have HM9 := Lib.hid hm2
        rw [HN2.out] at e7 h1
        clear hPa hp2 hm2 hwt h2 h4 hw2e q0 q1 q2 hql c0 d7 hpl hgl
        have ht : (Value.slice (some ⟨g2, off2, none⟩) n cw2) = .slice (some ⟨g2, off2, none⟩) n cw2 := rfl
        go_wp2
        refine ⟨⟨{ P2 with waits := us }, o1 ++ [a], ?_⟩, by simp [lenOf]; omega⟩
        have hst := serve_step HW.out HGE.out
        obtain ⟨hpw, hmv⟩ := HP9.out.tailW (us := us) (by have := HWT.out; rw [HN2.out] at this ⊢; exact this)
        have hO9 := HO9.out
        refine ⟨⟨X2, vl2, _, hpw, HM9.out.trans hmv⟩, okp_step HI.out.ok hnow HW.out HGE.out, ?_, ?_, ?_, ?_⟩
        · rw [List.length_append, List.length_singleton, acCells_append]
          refine owns_only hO9 (only_p w9 p 7 _) (fun k hk e => ?_)
          exact HP9.out.row_ne hO9 (by decide) (by decide) (by decide) (by decide) k hk (.inl e)
        · rw [List.length_append, List.length_singleton]
          show o1.length + 1 + us.length ≤ 200
          omega
        · rw [HI.out.res, hst]
        · rw [HI.out.acs, hst]
          simp
end
end Go.Proofs.Ytmpcffkandmacaa
