/- give. -/
import Derived.Test.YtmpcffkandmacaaWalks3
namespace Go.Proofs.Ytmpcffkandmacaa
open Go.RowKit
set_option linter.unusedVariables false
set_option linter.unusedSimpArgs false

abbrev acV (a : Ac) : Value := .agg #[.int .i64 a.kind, .int .i64 a.conn, .int .i64 a.who]
def gvV (o : Option Ac) : Value := match o with | some a => .tuple #[acV a, .bool true] | none => .tuple #[acV ⟨0, 0, 0⟩, .bool false]
theorem zero27 : ∀ w : World, (zeroValue 27).run Try.prog w = .ok (.agg #[.int .i64 0, .int .i64 0, .int .i64 0]) w := fun w => by kernel_rfl
theorem zero71 : ∀ w : World, (zeroValue 71).run Try.prog w = .ok (.agg #[.int .i64 0, .int .i64 0, .int .i64 0, .int .i64 0, .int .i64 0, .int .i64 0]) w := fun w => by kernel_rfl
/-- The pool stands, moved. -/
def PP (F : Nat → Prop) (w w' : World) (lo p : Nat) (P : Pp) : Prop := ∃ X vl vw, Pw w' lo p P X vl vw ∧ Mv F (foot p X vl vw) w w'
section
variable {w : World} {lo p : Nat} {P : Pp} {X : List (Nat × Cn)} {vl vw : Value}
theorem Pw.setC_mv (h : Pw w lo p P X vl vw) {i b : Nat} {c c' : Cn} (hi : X[i]? = some (b, c)) {j : Nat} {u : Value} (e : cnC c' = (cnC c).set j u) :
    Pw (w.setCell ⟨b, j, none⟩ u) lo p { P with l := P.l.set i c' } (X.set i (b, c')) vl vw ∧ Mv (foot p X vl vw) (foot p (X.set i (b, c')) vl vw) w (w.setCell ⟨b, j, none⟩ u) := by
  refine ⟨h.setC hi e, (only_p w b j u).mono (fun k _ hk => ?_), fun k hk => .inl ((foot_set hi k).1 hk)⟩
  exact .inr (.inl ⟨(b, c), List.mem_of_getElem? hi, hk.symm⟩)
theorem Pw.not_ (h : Pw w lo p P X vl vw) {q t : Nat} {cs : List Value} (hb : Blk w q cs t) (h1 : t ≠ 63) (h2 : t ≠ 71) (h3 : t ≠ 65) (h4 : t ≠ 3) : ¬ foot p X vl vw q := fun hf => by
  rcases hf with rfl | ⟨x, hx, rfl⟩ | e | e
  · exact h1 (hb.inj h.blk).2
  · exact h2 (hb.inj (h.cn x hx).1).2
  · exact ownsRow_ne h.row hb h3 e
  · exact h.wt.ne hb h4 e
theorem Mv.then_ {F G S : Nat → Prop} {a b c : World} (h : Mv F G a b) (ho : Only S b c) (hS : ∀ k, S k → a.heap.size ≤ k) : Mv F G a c :=
  ⟨h.only.trans ho (fun i hi hs => absurd (hS i hs) (by omega)), h.2⟩
theorem set_set' {i : Nat} {a b : Nat × Cn} : (X.set i a).set i b = X.set i b := by simp
theorem set_set {l : List Cn} {i : Nat} {a b : Cn} : (l.set i a).set i b = l.set i b := by simp

/-- p.l = append(p.l, c). -/
theorem Pw.appC (h : Pw w lo p P X vl vw) {b : Nat} {c : Cn} (hb : Blk w b (cnC c) 71) (hlo : lo ≤ b) (hnew : ∀ x ∈ X, x.1 ≠ b) (hbp : b ≠ p) {o : Obj} {w9 : World} {v9 : Value}
    (hrow : w9.ownsRow lo 65 1 v9 (X.length + 1) (ptrs X ++ [ptr b])) (hon : Only (fun i => vl.ownBlock = some i) (w.alloc o) w9) (hat : v9.ownBlock = vl.ownBlock ∨ v9.ownBlock = some (w.alloc o).heap.size) :
    Pw (w9.setCell ⟨p, 6, none⟩ v9) lo p { P with l := P.l ++ [c] } (X ++ [(b, c)]) v9 vw ∧ Only (foot p X vl vw) w (w9.setCell ⟨p, 6, none⟩ v9) ∧ ∀ k, foot p (X ++ [(b, c)]) v9 vw k → foot p X vl vw k ∨ k = b ∨ w.heap.size ≤ k := by
  have hoa : Only (fun _ => False) w (w.alloc o) := (Only.refl _ _).alloc _
  have hbl : vl.ownBlock ≠ some b := ownsRow_ne h.row hb (by decide)
  have ho9 : Only (fun i => vl.ownBlock = some i) w w9 := (hoa.mono (fun _ _ h => h.elim)).trans hon (fun _ _ h => h)
  have hb9 := h.blk.only ho9 h.nl
  have hs9 := ho9.size
  have hnv : v9.ownBlock ≠ some p := fun e => ownsRow_ne hrow hb9 (by decide) e
  have hop := only_p w9 p 6 v9
  refine ⟨⟨hb9.set 6 v9, ?_, ?_, h.low, ?_, ?_, ?_⟩, ?_, ?_⟩
  · have e : ptrs (X ++ [(b, c)]) = ptrs X ++ [ptr b] := by simp [ptrs]
    rw [e, List.length_append, List.length_singleton]
    exact owns_only hrow hop (fun k hk e => hnv (by rw [hk, e]))
  · exact (h.wt.only ho9 (fun k hk e => h.nlw k e hk)).only hop (fun k hk e => h.nw (by rw [hk, e]))
  · show P.l ++ [c] = _
    rw [h.l]; simp
  · intro i j x y hi hj e
    have key : ∀ (m : Nat) (z : Nat × Cn), (X ++ [(b, c)])[m]? = some z → (m < X.length ∧ X[m]? = some z) ∨ (m = X.length ∧ z = (b, c)) := fun m z hm => by
      rw [List.getElem?_append] at hm
      split at hm
      · exact .inl ⟨by assumption, hm⟩
      · rename_i hml
        have : m - X.length = 0 := by
          have := (List.getElem?_eq_some_iff.1 hm).1
          simpa using this
        rw [this] at hm
        simp only [List.getElem?_cons_zero, Option.some.injEq] at hm
        exact .inr ⟨by omega, hm.symm⟩
    rcases key i x hi with ⟨a1, a2⟩ | ⟨a1, a2⟩ <;> rcases key j y hj with ⟨b1, b2⟩ | ⟨b1, b2⟩
    · exact h.ne i j x y a2 b2 e
    · rw [b2] at e
      exact absurd e (hnew x (List.mem_of_getElem? a2))
    · rw [a2] at e
      exact absurd e.symm (hnew y (List.mem_of_getElem? b2))
    · omega
  · intro x hx
    rcases List.mem_append.1 hx with hx | hx
    · exact ⟨((h.cn x hx).1.only ho9 (h.nlc x hx)).only hop (h.np x hx), (h.cn x hx).2⟩
    · rw [List.mem_singleton.1 hx]
      exact ⟨(hb.only ho9 hbl).only hop hbp, hlo⟩
  · refine (ho9.mono (fun k _ hk => .inr (.inr (.inl hk)))).trans hop (fun k _ hk => .inl hk)
  · intro k hk
    rcases hk with rfl | ⟨x, hx, rfl⟩ | hk | hk
    · exact .inl (.inl rfl)
    · rcases List.mem_append.1 hx with hx | hx
      · exact .inl (.inr (.inl ⟨x, hx, rfl⟩))
      · rw [List.mem_singleton.1 hx]; exact .inr (.inl rfl)
    · rcases hat with e | e
      · exact .inl (.inr (.inr (.inl (by rw [← e]; exact hk))))
      · rw [e] at hk
        injection hk with hk
        have := hoa.size
        exact .inr (.inr (by omega))
    · exact .inl (.inr (.inr (.inr hk)))
theorem blk_st3 {w : World} {q t : Nat} {a b c : Value} (h : Blk w q [a, b, c] t) (x y z : Value) : Blk (((w.setCell ⟨q, 0, none⟩ x).setCell ⟨q, 1, none⟩ y).setCell ⟨q, 2, none⟩ z) q [x, y, z] t := ((h.set 0 x).set 1 y).set 2 z
theorem only_st3 (w : World) (q : Nat) (x y z : Value) : Only (fun k => k = q) w (((w.setCell ⟨q, 0, none⟩ x).setCell ⟨q, 1, none⟩ y).setCell ⟨q, 2, none⟩ z) := ((only_p w q 0 x).trans (only_p _ q 1 y) (fun _ _ h => h)).trans (only_p _ q 2 z) (fun _ _ h => h)
set_option maxRecDepth 100000 in
set_option maxHeartbeats 1600000 in
theorem give_some (h : Pw w lo p P X vl vw) (hn : OkN P) (ht : OkT P) (now : Nat) (who : Int) {i : Nat} (hi : bestU P now P.l.length = some i) :
    Calls Try.prog 26 #[ptr p, .int .i64 now, .int .i64 who] w fun e w' => e = .returned (.tuple #[acV ⟨2, (cnAt P.l i).num, who⟩, .bool true]) ∧ PP (foot p X vl vw) w w' lo p { P with l := P.l.set i { cnAt P.l i with st := 1, who := who } } := by
  have hil : i < P.l.length := bestU_lt hi
  obtain ⟨b, hb⟩ := h.at_ hil
  have hcp : cptr X (some i) = ptr b := by simp [cptr, List.getD_eq_getElem?_getD, hb]
  obtain ⟨P1, hP1⟩ : ∃ P1, P1 = { P with l := P.l.set i { cnAt P.l i with st := 1, who := who } } := ⟨_, rfl⟩
  rw [← hP1]
  obtain ⟨c, hc⟩ : ∃ c, c = cnAt P.l i := ⟨_, rfl⟩
  rw [← hc] at hb hP1 ⊢
  have ho1 : Only (fun _ => False) w (w.alloc (Obj.cells #[.int .i64 0, .int .i64 0, .int .i64 0] 27)) := (Only.refl _ _).alloc _
  have hb1 : Blk (w.alloc (Obj.cells #[.int .i64 0, .int .i64 0, .int .i64 0] 27)) w.heap.size [.int .i64 0, .int .i64 0, .int .i64 0] 27 := Blk.new w [.int .i64 0, .int .i64 0, .int .i64 0] 27
  have h1 := h.only ho1 (fun _ _ h => h)
  have hbest := best_any h1 hn ht now
  rw [hi, hcp] at hbest
  have HB := Lib.hid hbest
  obtain ⟨num, hnum⟩ : ∃ num, num = c.num := ⟨_, rfl⟩
  rw [← hnum]
  have HNUM := Lib.hid hnum
  have HP1 := Lib.hid hP1
  have HH := Lib.hid h1
  have HO1 := Lib.hid ho1
  have HB1 := Lib.hid hb1
  have HI := Lib.hid hb
  have z27 := zero27
  clear h hn ht hi hil hb hcp hc hP1 ho1 hb1 h1 hbest hnum
  go_enter Try.func26, Try.ntmps26
  go_upto_region 3 with (go_at_call 49; (refine HB.out.mono ?_); rintro e w2 ⟨rfl, hd⟩; have HD := Lib.hid hd; clear hd)
  obtain ⟨q, hq⟩ : ∃ q, q = w.heap.size := ⟨_, rfl⟩
  have hb2 := HB1.out.only (HD.out.only (fun _ => False)) (fun h => h)
  have h2 := HH.out.only (HD.out.only (fun _ => False)) (fun _ _ h => h)
  rw [← hq] at hb2 ⊢
  have HO2 := Lib.hid (HO1.out.trans (HD.out.only (fun _ => False)) (fun _ _ h => h))
  have HQ := Lib.hid hq
  obtain ⟨_, _, hbk, _⟩ := h2.cnAt_ HI.out
  have k1 := hbk.cell 1 _ rfl
  have f1 := hbk.free 1
  have k2 := hbk.cell 2 _ rfl
  have f2 := hbk.free 2
  have hbl := hbk.lt
  have hqb : q ≠ b := fun e => by rw [e] at hb2; exact absurd (hb2.inj hbk).2 (by decide)
  clear hq
  have H2 := Lib.hid h2
  have HB2 := Lib.hid hb2
  have HQB := Lib.hid hqb
  clear hb2 h2 hbk
  go_upto_region 4 with fail
  obtain ⟨h3, m3⟩ := H2.out.setC_mv HI.out (j := 1) (u := .int .i64 1) (c' := { c with st := 1 }) rfl
  have hi3 : (X.set i (b, { c with st := 1 }))[i]? = some (b, { c with st := 1 }) := by
    obtain ⟨hx, _⟩ := List.getElem?_eq_some_iff.1 HI.out
    simp [hx]
  obtain ⟨h4, m4⟩ := h3.setC_mv hi3 (j := 2) (u := .int .i64 who) (c' := { c with st := 1, who := who }) rfl
  have hb4 := (HB2.out.only (only_p w2 b 1 (.int .i64 1)) HQB.out).only (only_p _ b 2 (.int .i64 who)) HQB.out
  have HM := Lib.hid (m3.trans m4)
  have H4 := Lib.hid h4
  clear h3 m3 m4 h4 hi3 k1 f1 k2 f2 hbl hqb
  generalize (w2.setCell ⟨b, 1, none⟩ (.int .i64 1)).setCell ⟨b, 2, none⟩ (.int .i64 who) = w4 at hb4 H4 HM ⊢
  have hb44 : Blk w4 b (cnC { c with st := 1, who := who }) 71 := (H4.out.cn _ (List.mem_of_getElem? (show ((X.set i (b, { c with st := 1 })).set i (b, { c with st := 1, who := who }))[i]? = some (b, { c with st := 1, who := who }) by obtain ⟨hx, _⟩ := List.getElem?_eq_some_iff.1 HI.out; simp [hx]))).1
  have k0 : w4.cell? ⟨b, 0, none⟩ = some (.int .i64 num) := by rw [HNUM.out]; exact hb44.cell 0 _ rfl
  have hbl := hb44.lt
  have g0 := hb4.cell 0 _ rfl
  have g1 := hb4.cell 1 _ rfl
  have g2 := hb4.cell 2 _ rfl
  have e0 := hb4.free 0
  have e1 := hb4.free 1
  have e2 := hb4.free 2
  have hql := hb4.lt
  have HB4 := Lib.hid hb4
  clear hb44 hb4
  go_wp2
  have hb5 := blk_st3 HB4.out (.int .i64 2) (.int .i64 num) (.int .i64 who)
  have ho5 := only_st3 w4 q (.int .i64 2) (.int .i64 num) (.int .i64 who)
  generalize ((w4.setCell ⟨q, 0, none⟩ (.int .i64 2)).setCell ⟨q, 1, none⟩ (.int .i64 num)).setCell ⟨q, 2, none⟩ (.int .i64 who) = w5 at hb5 ho5 ⊢
  have r0 := hb5.cell 0 _ rfl
  have r1 := hb5.cell 1 _ rfl
  have r2 := hb5.cell 2 _ rfl
  clear k0 g0 g1 g2 e0 e1 e2
  (try simp only [Exit.inBlock, Exit.then])
  refine bodyPost_ret (v := .tuple #[.agg #[.int .i64 2, .int .i64 num, .int .i64 who], .bool true]) (by simp [results, Try.results26, go_sem, r0, r1, r2]) rfl ?_
  refine ⟨rfl, X.set i (b, { c with st := 1, who := who }), vl, vw, ?_, ?_⟩
  · have h5 := H4.out.only ho5 (fun k hk e => by subst e; exact H4.out.not_ HB4.out (by decide) (by decide) (by decide) (by decide) hk)
    rw [set_set'] at h5
    rw [HP1.out]
    have e : ({ P with l := (P.l.set i { c with st := 1 }).set i { c with st := 1, who := who } } : Pp) = { P with l := P.l.set i { c with st := 1, who := who } } := by rw [set_set]
    rw [← e]
    exact h5
  · have hm := HM.out
    rw [set_set'] at hm
    exact ((Mv.of_only HO2.out).trans hm).then_ ho5 (fun k hk => by rw [hk, HQ.out]; exact Nat.le_refl _)

set_option maxRecDepth 100000 in
set_option maxHeartbeats 1600000 in
theorem give_full (h : Pw w lo p P X vl vw) (hn : OkN P) (ht : OkT P) (now : Nat) (who : Int) (hi : bestU P now P.l.length = none) (hc : P.cap ≤ P.l.length) :
    Calls Try.prog 26 #[ptr p, .int .i64 now, .int .i64 who] w fun e w' => e = .returned (.tuple #[acV ⟨0, 0, 0⟩, .bool false]) ∧ PP (foot p X vl vw) w w' lo p P := by
  obtain ⟨n, hnl⟩ : ∃ n, n = P.l.length := ⟨_, rfl⟩
  have hnx : n = X.length := hnl.trans h.len
  have ho1 : Only (fun _ => False) w (w.alloc (Obj.cells #[.int .i64 0, .int .i64 0, .int .i64 0] 27)) := (Only.refl _ _).alloc _
  have hb1 : Blk (w.alloc (Obj.cells #[.int .i64 0, .int .i64 0, .int .i64 0] 27)) w.heap.size [.int .i64 0, .int .i64 0, .int .i64 0] 27 := Blk.new w [.int .i64 0, .int .i64 0, .int .i64 0] 27
  have h1 := h.only ho1 (fun _ _ h => h)
  have hbest := best_any h1 hn ht now
  rw [hi] at hbest
  simp only [cptr] at hbest
  rw [← hnl] at hc
  have HB := Lib.hid hbest
  have HH := Lib.hid h1
  have HO1 := Lib.hid ho1
  have HB1 := Lib.hid hb1
  have HNX := Lib.hid hnx
  have z27 := zero27
  clear h hn ht hi ho1 hb1 h1 hbest hnl hnx
  go_enter Try.func26, Try.ntmps26
  go_upto_region 5 with (go_at_call 49; (refine HB.out.mono ?_); rintro e w2 ⟨rfl, hd⟩; have HD := Lib.hid hd; clear hd)
  obtain ⟨q, hq⟩ : ∃ q, q = w.heap.size := ⟨_, rfl⟩
  have hb2 := HB1.out.only (HD.out.only (fun _ => False)) (fun h => h)
  have h2 := HH.out.only (HD.out.only (fun _ => False)) (fun _ _ h => h)
  rw [← hq] at hb2 ⊢
  have HO2 := Lib.hid (HO1.out.trans (HD.out.only (fun _ => False)) (fun _ _ h => h))
  have HQ := Lib.hid hq
  obtain ⟨ao, cap, rfl, a1, a2, -⟩ := ownsRow_slice h2.row
  have hcm : cap ≤ 9223372036854775807 := by unfold maxLen at a2; omega
  have k6 := h2.blk.cell 6 _ rfl
  have k0 := h2.blk.cell 0 _ rfl
  have hpl := h2.blk.lt
  rw [← HNX.out] at k6 a1
  generalize P.cap = cp at k0 hc
  have H2 := Lib.hid h2
  have HB2 := Lib.hid hb2
  have f1 : decide ((cp : Int) ≤ (n : Int)) = true := decide_eq_true (by omega)
  have f1n : decide (cp ≤ n) = true := decide_eq_true hc
  clear hq hb2 h2 a2
  go_quiet (fail)
  have hO3 : Only (fun _ => False) w2 (w2.drewN nq) := (Drawn.of w2 nq).only (fun _ => False)
  have hb3 := HB2.out.only hO3 (fun h => h)
  have h3 := H2.out.only hO3 (fun _ _ h => h)
  have HO3 := Lib.hid (HO2.out.trans hO3 (fun _ _ h => h))
  clear k6 k0 hpl hO3
  generalize w2.drewN nq = w3 at hb3 h3 HO3 ⊢
  have g0 := hb3.cell 0 _ rfl
  have g1 := hb3.cell 1 _ rfl
  have g2 := hb3.cell 2 _ rfl
  have e0 := hb3.free 0
  have e1 := hb3.free 1
  have e2 := hb3.free 2
  have hql := hb3.lt
  have HB3 := Lib.hid hb3
  have H3 := Lib.hid h3
  clear hb3 h3
  go_wp2
  have hb5 := blk_st3 HB3.out (.int .i64 0) (.int .i64 0) (.int .i64 0)
  have ho5 := only_st3 w3 q (.int .i64 0) (.int .i64 0) (.int .i64 0)
  generalize ((w3.setCell ⟨q, 0, none⟩ (.int .i64 0)).setCell ⟨q, 1, none⟩ (.int .i64 0)).setCell ⟨q, 2, none⟩ (.int .i64 0) = w5 at hb5 ho5 ⊢
  have r0 := hb5.cell 0 _ rfl
  have r1 := hb5.cell 1 _ rfl
  have r2 := hb5.cell 2 _ rfl
  clear g0 g1 g2 e0 e1 e2
  (try simp only [Exit.inBlock, Exit.then])
  refine bodyPost_ret (v := .tuple #[.agg #[.int .i64 0, .int .i64 0, .int .i64 0], .bool false]) (by simp [results, Try.results26, go_sem, r0, r1, r2]) rfl ?_
  exact ⟨rfl, X, .slice ao X.length cap, vw, H3.out.only ho5 (fun k hk e => by subst e; exact H3.out.not_ HB3.out (by decide) (by decide) (by decide) (by decide) hk),
    (Mv.of_only HO3.out).then_ ho5 (fun k hk => by rw [hk, HQ.out]; exact Nat.le_refl _)⟩

set_option maxRecDepth 100000 in
set_option maxHeartbeats 1600000 in
theorem give_new (h : Pw w lo p P X vl vw) (hn : OkN P) (ht : OkT P) (now : Nat) (who : Int) (hi : bestU P now P.l.length = none) (hc : ¬ P.cap ≤ P.l.length) (hx : P.next < 9223372036854775807) :
    Calls Try.prog 26 #[ptr p, .int .i64 now, .int .i64 who] w fun e w' => e = .returned (.tuple #[acV ⟨1, P.next, who⟩, .bool true]) ∧ PP (foot p X vl vw) w w' lo p { P with next := P.next + 1, l := P.l ++ [⟨P.next, 0, who, 0, now, 0⟩] } := by
  obtain ⟨i65, hi65, hz0, hz1, hz2⟩ := info_parts Try.info65
  obtain ⟨n, hnl⟩ : ∃ n, n = P.l.length := ⟨_, rfl⟩
  have hnx : n = X.length := hnl.trans h.len
  obtain ⟨P1, hP1⟩ : ∃ P1 : Pp, P1 = { P with next := P.next + 1, l := P.l ++ [⟨P.next, 0, who, 0, now, 0⟩] } := ⟨_, rfl⟩
  rw [← hP1]
  have ho1 : Only (fun _ => False) w (w.alloc (Obj.cells #[.int .i64 0, .int .i64 0, .int .i64 0] 27)) := (Only.refl _ _).alloc _
  have hb1 : Blk (w.alloc (Obj.cells #[.int .i64 0, .int .i64 0, .int .i64 0] 27)) w.heap.size [.int .i64 0, .int .i64 0, .int .i64 0] 27 := Blk.new w [.int .i64 0, .int .i64 0, .int .i64 0] 27
  have h1 := h.only ho1 (fun _ _ h => h)
  have hbest := best_any h1 hn ht now
  rw [hi] at hbest
  simp only [cptr] at hbest
  rw [← hnl] at hc
  have hc64 := hn.c.2
  have HB := Lib.hid hbest
  have HH := Lib.hid h1
  have HO1 := Lib.hid ho1
  have HB1 := Lib.hid hb1
  have HNX := Lib.hid hnx
  have HP1 := Lib.hid hP1
  have z27 := zero27
  have z71 := zero71
  obtain ⟨nx, hnxt⟩ : ∃ nx, nx = P.next := ⟨_, rfl⟩
  rw [← hnxt] at hx ⊢
  have HNXT := Lib.hid hnxt
  clear h hn ht hi ho1 hb1 h1 hbest hnl hnx hP1 hnxt
  go_enter Try.func26, Try.ntmps26
  go_upto_region 5 with (go_at_call 49; (refine HB.out.mono ?_); rintro e w2 ⟨rfl, hd⟩; have HD := Lib.hid hd; clear hd)
  obtain ⟨q, hq⟩ : ∃ q, q = w.heap.size := ⟨_, rfl⟩
  have hb2 := HB1.out.only (HD.out.only (fun _ => False)) (fun h => h)
  have h2 := HH.out.only (HD.out.only (fun _ => False)) (fun _ _ h => h)
  rw [← hq] at hb2 ⊢
  have HO2 := Lib.hid (HO1.out.trans (HD.out.only (fun _ => False)) (fun _ _ h => h))
  have HQ := Lib.hid hq
  obtain ⟨ao, cap, rfl, a1, a2, -⟩ := ownsRow_slice h2.row
  have hcm : cap ≤ 9223372036854775807 := by unfold maxLen at a2; omega
  have k6 := h2.blk.cell 6 _ rfl
  have k0 := h2.blk.cell 0 _ rfl
  have hpl := h2.blk.lt
  rw [← HNX.out] at k6 a1
  generalize hcp : P.cap = cp at k0 hc hc64
  have H2 := Lib.hid h2
  have HB2 := Lib.hid hb2
  have f1 : decide ((cp : Int) ≤ (n : Int)) = false := decide_eq_false (by omega)
  have f1n : decide (cp ≤ n) = false := decide_eq_false hc
  have hn64 : n < 64 := by omega
  clear hq hb2 h2 a2 hcp
  go_quiet (fail)
  have hO3 : Only (fun _ => False) w2 (w2.drewN nq) := (Drawn.of w2 nq).only (fun _ => False)
  have hb3 := HB2.out.only hO3 (fun h => h)
  have h3 := H2.out.only hO3 (fun _ _ h => h)
  have HO3 := Lib.hid (HO2.out.trans hO3 (fun _ _ h => h))
  clear k6 k0 hpl hO3
  generalize w2.drewN nq = w3 at hb3 h3 HO3 ⊢
  have k4 : w3.cell? ⟨p, 4, none⟩ = some (.int .i64 nx) := by rw [HNXT.out]; exact h3.blk.cell 4 _ rfl
  have hpl := h3.blk.lt
  have HB3 := Lib.hid hb3
  have H3 := Lib.hid h3
  clear hb3 h3
  go_upto_region 8 with fail
  have ho4 : Only (fun _ => False) w3 (w3.alloc (Obj.cells #[.int .i64 nx, .int .i64 0, .int .i64 who, .int .i64 0, .int .i64 now, .int .i64 0] 71)) := (Only.refl _ _).alloc _
  have hb4 : Blk (w3.alloc (Obj.cells #[.int .i64 nx, .int .i64 0, .int .i64 who, .int .i64 0, .int .i64 now, .int .i64 0] 71)) w3.heap.size (cnC ⟨nx, 0, who, 0, now, 0⟩) 71 := Blk.new w3 [.int .i64 nx, .int .i64 0, .int .i64 who, .int .i64 0, .int .i64 now, .int .i64 0] 71
  have h4 := H3.out.only ho4 (fun _ _ h => h)
  have hb34 := HB3.out.only ho4 (fun h => h)
  obtain ⟨b, hb⟩ : ∃ b, b = w3.heap.size := ⟨_, rfl⟩
  rw [← hb] at hb4 ⊢
  have HB := Lib.hid hb
  generalize w3.alloc (Obj.cells #[.int .i64 nx, .int .i64 0, .int .i64 who, .int .i64 0, .int .i64 now, .int .i64 0] 71) = w4 at hb4 ho4 h4 hb34 ⊢
  have k4 : w4.cell? ⟨p, 4, none⟩ = some (.int .i64 nx) := by rw [HNXT.out]; exact h4.blk.cell 4 _ rfl
  have HO4 := Lib.hid ho4
  have f4 := h4.blk.free 4
  have hpl4 := h4.blk.lt
  have hpb : p ≠ b := by have := H3.out.blk.lt; omega
  have hqp : q ≠ p := fun e => by rw [e] at hb34; exact absurd (hb34.inj h4.blk).2 (by decide)
  have hnew : ∀ x ∈ X, x.1 ≠ b := fun x hx e => by have := (H3.out.cn x hx).1.lt; omega
  have HNEW := Lib.hid hnew
  have hlob : lo ≤ b := by rw [hb]; have := H3.out.low; have := H3.out.blk.lt; omega
  have e5 : ppC { P with next := P.next + 1 } (.slice ao X.length cap) vw = (ppC P (.slice ao X.length cap) vw).set 4 (.int .i64 ((nx : Int) + 1)) := by rw [HNXT.out]; rfl
  have h5 := h4.setF (P' := { P with next := P.next + 1 }) (i := 4) (u := .int .i64 ((nx : Int) + 1)) e5 rfl rfl
  have hb5 := hb4.only (only_p w4 p 4 (.int .i64 ((nx : Int) + 1))) (fun e => hpb e.symm)
  have hb35 := hb34.only (only_p w4 p 4 (.int .i64 ((nx : Int) + 1))) hqp
  have ho5 := only_p w4 p 4 (.int .i64 ((nx : Int) + 1))
  clear hb hb4 ho4 h4 hb34 hnew e5
  go_upto_region 9 with fail
  generalize w4.setCell ⟨p, 4, none⟩ (.int .i64 ((nx : Int) + 1)) = w5 at h5 hb5 hb35 ho5 ⊢
  have k6 := h5.blk.cell 6 _ rfl
  have f6 := h5.blk.free 6
  have hpl5 := h5.blk.lt
  have hlo5 : lo ≤ w5.heap.size := by have := h5.low; omega
  have hown := h5.row
  have HB5 := Lib.hid hb5
  have HB35 := Lib.hid hb35
  have HO5 := Lib.hid ho5
  rw [← HNX.out] at k6 hown
  have HOWN := Lib.hid hown
  have H5 := Lib.hid h5
  have HQP := Lib.hid hqp
  have HPB := Lib.hid hpb
  clear k4 f4 hpl4 hown hb5 hb35 ho5 h5 hqp hpb
  go_upto_region 10 with (at_builtin; refine wpList_append_row rfl (.tmp 58) (.tmp 60) 61 rfl lo 65 i65 (.pointer none) 1 8 Try.underlying61 hi65 hz0 hz1 hz2 rfl (by decide) (.slice ao n cap) n (ptrs X) rfl (HOWN.out.alloc _) (some ⟨w5.heap.size, 0, none⟩) 1 1 [ptr b] rfl rfl (fun _ => ⟨_, rfl, new_one _ _ _⟩) (fun e => by cases e) (by intro u hu; rw [List.mem_singleton.1 hu]; rfl) (by unfold maxLen; omega) (by omega) (by simp only [World.size_alloc]; omega) ?_; intro v9 w9 hown9 hon9 hat9 _; obtain ⟨a9, k9, rfl, _, _, _, _⟩ := ownsRow_slice hown9; have hb9 := (H5.out.blk.alloc (Obj.cells #[ptr b] 65)).only hon9 (fun e => by have h := H5.out.nl; rw [← HNX.out] at h; exact h e); have e6 := hb9.cell 6 _ rfl; have g6 := hb9.free 6; have hpl9 := hb9.lt; have HO9 := Lib.hid hown9; have HN9 := Lib.hid hon9; have HA9 := Lib.hid hat9; clear hown9 hon9 hat9 hb9)
  clear e6 g6 hpl9 k6 f6 hpl5
  obtain ⟨h10, o10, m10⟩ := H5.out.appC HB5.out hlob HNEW.out (fun e => HPB.out e.symm) (by rw [← HNX.out]; exact HO9.out) (by rw [← HNX.out]; exact HN9.out) (by rw [← HNX.out]; exact HA9.out)
  have hb10 := (HB35.out.alloc (Obj.cells #[ptr b] 65)).only HN9.out (fun e => ownsRow_ne HOWN.out HB35.out (by decide) e)
  have hb10 := hb10.only (only_p w9 p 6 (.slice a9 (n + 1) k9)) HQP.out
  have H10 := Lib.hid h10
  have O10 := Lib.hid o10
  have M10 := Lib.hid m10
  clear h10 o10 m10
  generalize w9.setCell ⟨p, 6, none⟩ (.slice a9 (n + 1) k9) = w10 at hb10 H10 O10 ⊢
  have hbk : Blk w10 b (cnC ⟨nx, 0, who, 0, now, 0⟩) 71 := (H10.out.cn (b, ⟨nx, 0, who, 0, now, 0⟩) (List.mem_append_right _ (List.mem_singleton.2 rfl))).1
  have n0 := hbk.cell 0 _ rfl
  have hbl := hbk.lt
  have g0 := hb10.cell 0 _ rfl
  have g1 := hb10.cell 1 _ rfl
  have g2 := hb10.cell 2 _ rfl
  have e0 := hb10.free 0
  have e1 := hb10.free 1
  have e2 := hb10.free 2
  have hql := hb10.lt
  have HB10 := Lib.hid hb10
  clear hb10 hbk
  go_wp2
  have hb5 := blk_st3 HB10.out (.int .i64 1) (.int .i64 nx) (.int .i64 who)
  have ho5 := only_st3 w10 q (.int .i64 1) (.int .i64 nx) (.int .i64 who)
  generalize ((w10.setCell ⟨q, 0, none⟩ (.int .i64 1)).setCell ⟨q, 1, none⟩ (.int .i64 nx)).setCell ⟨q, 2, none⟩ (.int .i64 who) = w11 at hb5 ho5 ⊢
  have r0 := hb5.cell 0 _ rfl
  have r1 := hb5.cell 1 _ rfl
  have r2 := hb5.cell 2 _ rfl
  clear g0 g1 g2 e0 e1 e2 n0 hbl
  (try simp only [Exit.inBlock, Exit.then])
  refine bodyPost_ret (v := .tuple #[.agg #[.int .i64 1, .int .i64 nx, .int .i64 who], .bool true]) (by simp [results, Try.results26, go_sem, r0, r1, r2]) rfl ?_
  refine ⟨rfl, X ++ [(b, ⟨nx, 0, who, 0, now, 0⟩)], .slice a9 (n + 1) k9, vw, ?_, ?_⟩
  · rw [HP1.out, ← HNXT.out]
    have h := H10.out.only ho5 (fun k hk e => by subst e; exact H10.out.not_ HB10.out (by decide) (by decide) (by decide) (by decide) hk)
    rw [← HNXT.out] at h
    exact h
  · have ho35 : Only (foot p X (.slice ao X.length cap) vw) w w10 := ((HO3.out.trans HO4.out (fun _ _ h => h)).mono (fun _ _ h => h.elim)).trans (HO5.out.mono (fun k _ hk => Or.inl hk)) (fun _ _ h => h) |>.trans O10.out (fun _ _ h => h)
    refine Mv.then_ ⟨ho35, fun k hk => ?_⟩ ho5 (fun k hk => by rw [hk, HQ.out]; exact Nat.le_refl _)
    have hs : w.heap.size ≤ w3.heap.size := HO3.out.size
    have hs5 : w3.heap.size ≤ w5.heap.size := Nat.le_trans HO4.out.size HO5.out.size
    rcases M10.out k hk with h | h | h
    · exact .inl h
    · have := HB.out; exact .inr (by omega)
    · exact .inr (by omega)
end
end Go.Proofs.Ytmpcffkandmacaa
