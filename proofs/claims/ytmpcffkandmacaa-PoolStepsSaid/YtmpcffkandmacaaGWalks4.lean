/- The reference: serve. -/
import Derived.Test.YtmpcffkandmacaaGWalks3
namespace Go.Proofs.Ytmpcffkandmacaa
open Go.RowKit
set_option linter.unusedVariables false
set_option linter.unusedSimpArgs false

section
variable {F : Nat → Prop} {w0 w : World} {lo p : Nat} {P : Pp} {R : List Nat} {vl vr vw : Value} {Cs : List Cn}
/-- What stands ahead of a round. -/
structure GSvI (F : Nat → Prop) (w0 w wr : World) (lo p : Nat) (P1 : Pp) (R1 : List Nat) (v : Value) (o1 : List Ac) (now : Nat) (P : Pp) (k : Nat) : Prop where
  pp : GP F w0 wr lo p P1 R1
  rel : Rel P1 R1
  ok : Okp P1 k
  row : wr.ownsRow w.heap.size 82 3 v o1.length (acCells o1)
  len : o1.length + P1.waits.length ≤ 200
  res : (serve P now).1 = (serve P1 now).1
  acs : (serve P now).2 = o1 ++ (serve P1 now).2
  sz : w.heap.size ≤ wr.heap.size
structure GSvP (F : Nat → Prop) (w0 w w' : World) (lo p : Nat) (P : Pp) (v : Value) (o : List Ac) : Prop where
  pp : ∃ R', Rel P R' ∧ GP F w0 w' lo p P R'
  row : w'.ownsRow w.heap.size 82 3 v o.length (acCells o)
theorem GSvI.done {wr : World} {P1 : Pp} {R1 : List Nat} {v : Value} {o1 : List Ac} {now k : Nat} (h : GSvI F w0 w wr lo p P1 R1 v o1 now P k) (he : serve P1 now = (P1, [])) : GSvP F w0 w wr lo p (serve P now).1 v (serve P now).2 := by
  refine ⟨⟨R1, by rw [h.res, he]; exact h.rel, by rw [h.res, he]; exact h.pp⟩, ?_⟩
  rw [h.acs, he, List.append_nil]
  exact h.row
theorem Rel.waits {P : Pp} {R : List Nat} (h : Rel P R) (x : List Int) : Rel { P with waits := x } R := by
  obtain ⟨Cs, h⟩ := h
  exact ⟨Cs, h.r, h.srt, h.mem, h.inc, h.lt, h.nth⟩
theorem GP.row27 {w' : World} {P' : Pp} {R' : List Nat} (h : Gw w lo p P R vl vr vw) (k : GP (gfoot p vl vr vw) w w' lo p P' R') {b n : Nat} {v : Value} {xs : List Value} (hr : w.ownsRow b 82 3 v n xs) : w'.ownsRow b 82 3 v n xs := GP.row h k hr (by decide) (by decide) (by decide)
set_option maxRecDepth 100000 in
set_option maxHeartbeats 1600000 in
theorem gserve_any (h : GP F w0 w lo p P R) (hrel : Rel P R) {k : Nat} (hk : Okp P k) (hkl : k < 9223372036854775807) (now : Nat) (hnow : now ≤ 4611686018427387904) :
    Calls Try.prog 60 #[ptr p, .int .i64 now] w fun e w' => ∃ v, e = .returned v ∧ GSvP F w0 w w' lo p (serve P now).1 v (serve P now).2 := by
  obtain ⟨i82, hi82, hz0, hz1, hz2⟩ := info_parts Try.info82
  have z82 := zero82
  have hw0 := h.size
  have HI0 := Lib.hid (show GSvI F w0 w w lo p P R (.slice none 0 0) [] now P k from ⟨h, hrel, hk, World.ownsRow_nil _ _ _ _, by have := hk.w64; simp only [List.length_nil]; omega, rfl, rfl, Nat.le_refl _⟩)
  clear h hk hrel
  go_enter Try.func60, Try.ntmps60
  go_wp2
  go_loopw [5, 6, 7] (fun v _ _ wr => ∃ (P1 : Pp) (R1 : List Nat) (o1 : List Ac), GSvI F w0 w wr lo p P1 R1 v o1 now P k) (fun v _ _ _ => 200 - lenOf v)
  case atStart => exact ⟨P, R, [], HI0.out⟩
  case round =>
    obtain ⟨P1, R1, o1, hI⟩ := hrel
    obtain ⟨vl, vr, vw, hp, hm⟩ := hI.pp
    obtain ⟨ao, bc, rfl, hb1, hb2, _, _⟩ := ownsRow_slice hI.row
    have hlen := hI.len
    have hsz := hI.sz
    have hI2 := iRow_of hp.wt
    obtain ⟨aw, cw, rfl, hw1, hw2, _⟩ := id hI2
    obtain ⟨_, _, _, _, _, _, d7, hpl⟩ := hp.cells
    cases hw : P1.waits with
    | nil =>
      have HI := Lib.hid hI
      have HW := Lib.hid hw
      rw [hw] at d7 hw1
      clear hI hp hm hw hI2
      simp only [List.length_nil] at d7 hw1
      go_wp2
      go_ret
      exact ⟨_, rfl, HI.out.done (serve_nil HW.out)⟩
    | cons u us =>
      have HI := Lib.hid hI
      have HW := Lib.hid hw
      obtain ⟨g, rfl, hgl, c0⟩ := hI2.at_ rfl (i := 0) (by rw [hw]; simp)
      rw [hw] at d7 hw1 hlen c0
      have c0 : wr.cell? ⟨g, 0, none⟩ = some (.int .i64 u) := c0
      obtain ⟨n, hn⟩ : ∃ n, n = (u :: us).length := ⟨_, rfl⟩
      rw [← hn] at d7 hw1 hlen
      have hn1 : n = us.length + 1 := by rw [hn]; rfl
      have hn2 : (u :: us).length = n := hn.symm
      have HP := Lib.hid hp
      have HM := Lib.hid hm
      obtain ⟨Cs, hrc⟩ := hI.rel
      have hG := ggive_any hp hrc hI.ok hkl now u
      obtain ⟨P2, og, hg⟩ : ∃ P2 og, give P1 now u = (P2, og) := ⟨_, _, rfl⟩
      rw [hg] at hG
      have HG := Lib.hid hG
      have HGE := Lib.hid hg
      have HN := Lib.hid hn1
      have HN2 := Lib.hid hn2
      clear hI hp hm hw hn hG hg hn2 hI2 hrc
      cases og with
      | none =>
        go_wp2_with (go_at_call 57; (refine HG.out.mono ?_); rintro e w1 ⟨rfl, R2, hR2, hP⟩; have HPP := Lib.hid hP; have HR2 := Lib.hid hR2; clear hP hR2; simp only [gvV])
        go_ret
        have hP := HPP.out
        have e := serve_stop HW.out HGE.out
        have e2 := (give_none HGE.out).1
        have hoa : Only (fun _ => False) w1 (w1.alloc (Obj.cells #[Value.int IntKind.i64 0, Value.int IntKind.i64 0, Value.int IntKind.i64 0] 82)) := (Only.refl _ _).alloc _
        refine ⟨_, rfl, GSvI.done (P1 := P1) (R1 := R2) ⟨by have h := (GP.then_ HM.out hP).only0 hoa; rw [← e2]; exact h, by rw [← e2]; exact HR2.out, HI.out.ok, owns_only (GP.row27 HP.out hP HI.out.row) hoa (fun _ _ h => h), HI.out.len, HI.out.res, HI.out.acs, Nat.le_trans hsz (Nat.le_trans hP.size hoa.size)⟩ e⟩
      | some a =>
        go_upto_region 6 with (go_at_call 57; (refine HG.out.mono ?_); rintro e w1 ⟨rfl, R2, hR2, hP⟩; have HPP := Lib.hid hP; have HR2 := Lib.hid hR2; clear hP hR2; simp only [gvV])
        have hP := HPP.out
        have hrow1 := GP.row27 HP.out hP HI.out.row
        have hP1 := GP.then_ HM.out hP
        have hoa : Only (fun _ => False) w1 (w1.alloc (Obj.cells #[Value.int .i64 a.kind, Value.int .i64 a.conn, Value.int .i64 a.who] 82)) := (Only.refl _ _).alloc _
        have hba : Blk (w1.alloc (Obj.cells #[Value.int .i64 a.kind, Value.int .i64 a.conn, Value.int .i64 a.who] 82)) w1.heap.size (acC a) 82 := Blk.new w1 (acC a) 82
        have hP2 := hP1.only0 hoa
        have hrow2 := owns_only hrow1 hoa (fun _ _ h => h)
        have hsz2 : w.heap.size ≤ (w1.alloc (Obj.cells #[Value.int .i64 a.kind, Value.int .i64 a.conn, Value.int .i64 a.who] 82)).heap.size := Nat.le_trans hsz (Nat.le_trans hP.size hoa.size)
        obtain ⟨q, hq⟩ : ∃ q, q = w1.heap.size := ⟨_, rfl⟩
        rw [← hq] at hba ⊢
        clear hP hrow1 hP1 hoa hq
        generalize w1.alloc (Obj.cells #[Value.int .i64 a.kind, Value.int .i64 a.conn, Value.int .i64 a.who] 82) = w2 at hba hP2 hrow2 hsz2 ⊢
        have q0 := hba.cell 0 _ rfl
        have q1 := hba.cell 1 _ rfl
        have q2 := hba.cell 2 _ rfl
        have hql := hba.lt
        have HROW := Lib.hid hrow2
        have HP2 := Lib.hid hP2
        clear hrow2 hP2 hba
        have ho9 : o1.length ≤ 199 := by omega
        go_upto_region 7 with (at_builtin; refine wpList_append_row rfl (.tmp 29) (.tmp 31) 86 rfl w.heap.size 82 i82 _ 3 24 Try.underlying86 hi82 hz0 hz1 hz2 rfl (by decide) (.slice ao o1.length bc) o1.length (acCells o1) rfl (HROW.out.alloc _) (some ⟨w2.heap.size, 0, none⟩) 1 1 (acC a) rfl rfl (fun _ => ⟨_, rfl, cells_new _ _ _⟩) (fun e => by cases e) (fun u hu => ac_one [a] u (by simpa [acCells] using hu)) (by unfold maxLen; omega) (by omega) (by simp only [World.size_alloc]; omega) ?_; intro v9 w9 hown9 hon9 hat9 _; obtain ⟨a9, k9, rfl, _, _, _, _⟩ := ownsRow_slice hown9; have HO9 := Lib.hid hown9; have HN9 := Lib.hid hon9; have HA9 := Lib.hid hat9; clear hown9 hon9 hat9)
        have hPa : GP F w0 (w2.alloc (Obj.cells #[Value.int .i64 a.kind, Value.int .i64 a.conn, Value.int .i64 a.who] 82)) lo p P2 R2 := HP2.out.only0 ((Only.refl _ _).alloc _)
        have hP9 : GP F w0 w9 lo p P2 R2 := hPa.only HN9.out (fun k hk => Nat.le_trans hw0 (ownsRow_lt HROW.out k hk).1) (fun vl vr vw h k hk hv => h.row_ne (HROW.out.alloc _) (by decide) (by decide) (by decide) k hv hk)
        have hsz9 : w.heap.size ≤ w9.heap.size := Nat.le_trans hsz2 (Nat.le_trans (by simp) HN9.out.size)
        obtain ⟨vl2, vr2, vw2, hp2, hm2⟩ := hP9
        have hw2e : P2.waits = u :: us := by have := (give_keeps (P := P1) (now := now) (who := u)).1; rw [HGE.out] at this; exact this.trans HW.out
        have hI3 := iRow_of hp2.wt
        rw [hw2e] at hI3
        have HWO := Lib.hid (without_any hI3 (by have := HI.out.ok.w64; rw [HW.out] at this; omega) 0)
        obtain ⟨aw2, cw2, rfl, h1, h2, _⟩ := id hI3
        obtain ⟨_, _, _, _, _, _, e7, hpl2⟩ := hp2.cells
        have f7 := hp2.blk.free 7
        have HP9 := Lib.hid hp2
        have HM9 := Lib.hid hm2
        clear hPa hp2 hm2 hI3 hw2e q0 q1 q2 hql c0 d7 hpl hgl
        go_wp2_with (go_at_call 62; (refine HWO.out.mono ?_); rintro e w10 ⟨v10, rfl, hrow, hO⟩; have hlo9 : lo ≤ w9.heap.size := (Nat.le_trans HP9.out.low (Nat.le_of_lt HP9.out.blk.lt)); have hge : ∀ k, v10.ownBlock = some k → w9.heap.size ≤ k := (fun k hk => (ownsRow_lt hrow k hk).1); have hst := HP9.out.setW (l := us) (hO.mono (fun _ _ h => h.elim)) (ownsRow_lower hrow hlo9) (fun k hk => .inr (hge k hk)); have h10 := HP9.out.only0 hO; have e10 := h10.blk.cell 7 _ rfl; have f10 := h10.blk.free 7; have hpl10 := h10.blk.lt; have HST := Lib.hid hst; have HO10 := Lib.hid hO; obtain ⟨a10, k10, rfl, _, _, _, _⟩ := ownsRow_slice hrow; clear hst hrow hO hge h10)
        refine ⟨⟨{ P2 with waits := us }, R2, o1 ++ [a], ?_⟩, by simp [lenOf]; omega⟩
        have hst := serve_step HW.out HGE.out
        have hO9 := HO9.out
        obtain ⟨h10, m10⟩ := HST.out
        refine ⟨⟨_, _, _, h10, HM9.out.trans m10⟩, HR2.out.waits us, okp_step HI.out.ok hnow HW.out HGE.out, ?_, ?_, ?_, ?_, Nat.le_trans hsz9 (Nat.le_trans HO10.out.size (only_p w10 p 7 _).size)⟩
        · rw [List.length_append, List.length_singleton, acCells_append]
          refine owns_only (owns_only hO9 HO10.out (fun _ _ h => h)) (only_p w10 p 7 _) (fun k hk e => ?_)
          exact HP9.out.row_ne hO9 (by decide) (by decide) (by decide) k hk (.inl e)
        · rw [List.length_append, List.length_singleton]
          show o1.length + 1 + us.length ≤ 200
          omega
        · rw [HI.out.res, hst]
        · rw [HI.out.acs, hst]
          simp
end
end Go.Proofs.Ytmpcffkandmacaa
