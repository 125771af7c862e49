/- Ask. -/
import Derived.Test.YtmpcffkandmacaaWalks7
namespace Go.Proofs.Ytmpcffkandmacaa
open Go.RowKit
set_option linter.unusedVariables false
set_option linter.unusedSimpArgs false

set_option maxRecDepth 100000 in
/-- append to who waits. -/
theorem wpList_append_wait {w : World} {ops : Array Oper} {rest : List Oper} {o : Oper} {a : Act} {Q : Exit → Act → World → Prop} (hgd : o.guard = none) (s x : Operand)
    (ho : o.op = .call { callee := .builtin .append, args := #[s, x], argTypes := #[51, 51] }) (lo : Nat) (i : TypeInfo) (hi : Try.prog.info? 3 = some i) (hz : i.zero = some (.int .i64 0)) (hsize : i.size = 1) (hby : i.bytes = 8)
    (v : Value) (l : List Int) (hs : a.eval s = v) (hown : WRow w lo v l) (ad : Addr) (who : Int) (hx : a.eval x = .slice (some ad) 1 1) (hnews : ∀ j u, [Value.int .i64 who][j]? = some u → w.cell? (ad.add j) = some u)
    (hl : l.length ≤ 1000) (hbase : lo ≤ w.heap.size)
    (h : ∀ v' w', w'.ownsRow lo 3 1 v' (l.length + 1) (ints l ++ [.int .i64 who]) → Only (fun k => v.ownBlock = some k) w w' → (∀ k, v'.ownBlock = some k → v.ownBlock = some k ∨ w.heap.size ≤ k) → wpList Try.prog ops Q rest (a.put o.dst v') w') :
    wpList Try.prog ops Q (o :: rest) a w := by
  have hm : l.length + 1 ≤ maxLen := by unfold maxLen; omega
  rcases hown with hown | ⟨g, off, cs, rfl, h1, h2, h3, h4, h5⟩
  · refine wpList_append_row hgd s x 51 ho lo 3 i (.int .i64 0) 1 8 Try.underlying51 hi hz hsize hby rfl (by decide) v l.length (ints l) hs hown (some ad) 1 1 [.int .i64 who] hx rfl (fun _ => ⟨_, rfl, hnews⟩) (fun e => by cases e) (one_int _ _) hm (by omega) hbase ?_
    intro v' w' g1 g2 g3 _
    refine h v' w' g1 g2 (fun k hk => ?_)
    rcases g3 with e | e
    · exact .inl (by rw [← e]; exact hk)
    · rw [e] at hk; injection hk with hk; exact .inr (by omega)
  · refine wpList_append_grows w hgd s x 51 ho 3 i (.int .i64 0) 1 8 Try.underlying51 hi hz hsize hby rfl (by decide) (some ⟨g, off, none⟩) l.length l.length (ints l) hs (fun e => by cases e) (by rw [ints_len, Nat.mul_one]) (fun b hb j u hj => ?_) ad 1 1 [.int .i64 who] hx rfl hnews (one_int _ _) (by omega) hm (by omega) ?_
    · injection hb with hb
      subst hb
      have hjl : j < l.length := by have := (List.getElem?_eq_some_iff.1 hj).1; rwa [ints_len] at this
      rw [Go.WideShapes.add_plain, h2.cellAt, h5 j hjl]
      rw [ints_get hjl] at hj
      exact hj
    · intro v' w' g1 g2
      refine h v' w' (ownsRow_lower g1 hbase) ((Only.refl _ w).grown g2 (fun k hk => by cases hk)) (fun k hk => .inr ((ownsRow_lt g1 k hk).1))
section
variable {F : Nat → Prop} {w0 w : World} {lo p : Nat} {P : Pp} {X : List (Nat × Cn)} {vl vw : Value}
theorem Pw.appW (h : Pw w lo p P X vl vw) {o : Obj} {w9 : World} {v9 : Value} {who : Int} (hrow : w9.ownsRow lo 3 1 v9 (P.waits.length + 1) (ints P.waits ++ [.int .i64 who])) (hon : Only (fun k => vw.ownBlock = some k) (w.alloc o) w9)
    (hat : ∀ k, v9.ownBlock = some k → vw.ownBlock = some k ∨ (w.alloc o).heap.size ≤ k) :
    Pw (w9.setCell ⟨p, 7, none⟩ v9) lo p { P with waits := P.waits ++ [who] } X vl v9 ∧ Mv (foot p X vl vw) (foot p X vl v9) w (w9.setCell ⟨p, 7, none⟩ v9) := by
  have hoa : Only (fun _ => False) w (w.alloc o) := (Only.refl _ _).alloc _
  have ho9 : Only (fun k => vw.ownBlock = some k) w w9 := (hoa.mono (fun _ _ h => h.elim)).trans hon (fun _ _ h => h)
  have hb9 := h.blk.only ho9 h.nw
  have hop := only_p w9 p 7 v9
  have hnv : v9.ownBlock ≠ some p := fun e => ownsRow_ne hrow hb9 (by decide) e
  have hsz : w.heap.size ≤ (w.alloc o).heap.size := hoa.size
  have hr : w9.ownsRow lo 3 1 v9 (P.waits ++ [who]).length (ints (P.waits ++ [who])) := by rw [List.length_append, List.length_singleton, ints_append]; exact hrow
  refine ⟨⟨hb9.set 7 v9, owns_only (owns_only h.row ho9 (fun k hk e => h.nlw k hk e)) hop (fun k hk e => h.nl (by rw [hk, e])), .inl (owns_only hr hop (fun k hk e => hnv (by rw [hk, e]))), h.low, h.l, h.ne, fun x hx => ⟨((h.cn x hx).1.only ho9 (h.nwc x hx)).only hop (h.np x hx), (h.cn x hx).2⟩⟩, ?_, ?_⟩
  · exact (ho9.mono (fun k _ hk => .inr (.inr (.inr hk)))).trans hop (fun k _ hk => .inl hk)
  · intro k hk
    rcases hk with hk | hk | hk | hk
    · exact .inl (.inl hk)
    · exact .inl (.inr (.inl hk))
    · exact .inl (.inr (.inr (.inl hk)))
    · rcases hat k hk with e | e
      · exact .inl (.inr (.inr (.inr e)))
      · exact .inr (by omega)
/-- The answer's cell, and the pool beside it. -/
structure AskI (F : Nat → Prop) (w0 w : World) (lo p : Nat) (P : Pp) (q : Nat) : Prop where
  blk : ∃ a b c : Value, Blk w q [a, b, c] 27
  ge : w0.heap.size ≤ q
  pp : PP F w0 w lo p P
theorem AskI.new (h : PP F w0 w lo p P) : AskI F w0 (w.alloc (Obj.cells #[.int .i64 0, .int .i64 0, .int .i64 0] 27)) lo p P w.heap.size :=
  ⟨⟨_, _, _, Blk.new w [.int .i64 0, .int .i64 0, .int .i64 0] 27⟩, h.size, h.only0 ((Only.refl _ _).alloc _)⟩
theorem AskI.only0 {q : Nat} {w' : World} (h : AskI F w0 w lo p P q) (ho : Only (fun _ => False) w w') : AskI F w0 w' lo p P q := by
  obtain ⟨⟨a, b, c, hb⟩, h2, h3⟩ := h
  exact ⟨⟨a, b, c, hb.only ho (fun h => h)⟩, h2, h3.only0 ho⟩
theorem AskI.cells {q : Nat} (h : AskI F w0 w lo p P q) : ∃ a b c : Value, w.cell? ⟨q, 0, none⟩ = some a ∧ w.cell? ⟨q, 1, none⟩ = some b ∧ w.cell? ⟨q, 2, none⟩ = some c ∧ w.frozen? ⟨q, 0, none⟩ = false ∧ w.frozen? ⟨q, 1, none⟩ = false ∧ w.frozen? ⟨q, 2, none⟩ = false ∧ q < w.heap.size := by
  obtain ⟨⟨a, b, c, hb⟩, _, _⟩ := h
  exact ⟨a, b, c, hb.cell 0 _ rfl, hb.cell 1 _ rfl, hb.cell 2 _ rfl, hb.free 0, hb.free 1, hb.free 2, hb.lt⟩
/-- The answer is laid. -/
theorem AskI.lay {q : Nat} (h : AskI F w0 w lo p P q) (x y z : Value) : ∃ w5, w5 = ((w.setCell ⟨q, 0, none⟩ x).setCell ⟨q, 1, none⟩ y).setCell ⟨q, 2, none⟩ z ∧ w5.cell? ⟨q, 0, none⟩ = some x ∧ w5.cell? ⟨q, 1, none⟩ = some y ∧ w5.cell? ⟨q, 2, none⟩ = some z ∧ q < w5.heap.size ∧ PP F w0 w5 lo p P := by
  obtain ⟨⟨a, b, c, hb⟩, h2, h3⟩ := h
  have h5 := blk_st3 hb x y z
  refine ⟨_, rfl, h5.cell 0 _ rfl, h5.cell 1 _ rfl, h5.cell 2 _ rfl, h5.lt, h3.only (only_st3 w q x y z) (fun k hk => by rw [hk]; exact h2) (fun X vl vw hp k hk e => by subst e; exact hp.not_ hb (by decide) (by decide) (by decide) (by decide) hk)⟩
set_option maxRecDepth 100000 in
set_option maxHeartbeats 800000 in
theorem ask_err1 (h : PP F w0 w lo p P) (now who : Int) (hb : ¬ isMoment now ∨ who < 0) :
    Calls Try.prog 9 #[ptr p, .int .i64 now, .int .i64 who] w fun e w' => e = .returned (.tuple #[acV ⟨0, 0, 0⟩, .int .i64 1]) ∧ PP F w0 w' lo p P := by
  have z27 := zero27
  have hA := AskI.new h
  by_cases hm : isMoment now
  · have hwho : who < 0 := hb.resolve_left (fun h => h hm)
    have HM := Lib.hid (fun w => moment_ok now w hm.1 hm.2)
    clear h hb hm
    go_enter Try.func9, Try.ntmps9
    go_upto_region 1 with fail
    obtain ⟨q, hq⟩ : ∃ q, q = w.heap.size := ⟨_, rfl⟩
    rw [← hq] at hA ⊢
    clear hq
    generalize w.alloc (Obj.cells #[.int .i64 0, .int .i64 0, .int .i64 0] 27) = w1 at hA ⊢
    obtain ⟨a, b, c, g0, g1, g2, e0, e1, e2, hql⟩ := hA.cells
    have HA := Lib.hid hA
    clear hA
    go_wp2_with (go_at_call 23; (refine (HM.out _).mono ?_); rintro e w' ⟨rfl, rfl⟩)
    obtain ⟨w5, hw5, r0, r1, r2, hl5, h5⟩ := HA.out.lay (.int .i64 0) (.int .i64 0) (.int .i64 0)
    rw [← hw5]
    clear hw5 g0 g1 g2 e0 e1 e2
    (try simp only [Exit.inBlock, Exit.then])
    refine bodyPost_ret (v := .tuple #[.agg #[.int .i64 0, .int .i64 0, .int .i64 0], .int .i64 1]) (by simp [results, Try.results9, go_sem, r0, r1, r2]) rfl ?_
    exact ⟨rfl, h5⟩
  · have HM := Lib.hid (fun w => moment_bad now w (by unfold isMoment at hm; omega))
    clear h hb hm
    go_enter Try.func9, Try.ntmps9
    go_upto_region 1 with fail
    obtain ⟨q, hq⟩ : ∃ q, q = w.heap.size := ⟨_, rfl⟩
    rw [← hq] at hA ⊢
    clear hq
    generalize w.alloc (Obj.cells #[.int .i64 0, .int .i64 0, .int .i64 0] 27) = w1 at hA ⊢
    obtain ⟨a, b, c, g0, g1, g2, e0, e1, e2, hql⟩ := hA.cells
    have HA := Lib.hid hA
    clear hA
    go_wp2_with (go_at_call 23; (refine (HM.out _).mono ?_); rintro e w' ⟨rfl, rfl⟩)
    obtain ⟨w5, hw5, r0, r1, r2, hl5, h5⟩ := HA.out.lay (.int .i64 0) (.int .i64 0) (.int .i64 0)
    rw [← hw5]
    clear hw5 g0 g1 g2 e0 e1 e2
    (try simp only [Exit.inBlock, Exit.then])
    refine bodyPost_ret (v := .tuple #[.agg #[.int .i64 0, .int .i64 0, .int .i64 0], .int .i64 1]) (by simp [results, Try.results9, go_sem, r0, r1, r2]) rfl ?_
    exact ⟨rfl, h5⟩

theorem AskI.app {q : Nat} {o : Obj} {w9 : World} {v9 : Value} {who : Int} (h : AskI F w0 w lo p P q) (hp : Pw w lo p P X vl vw) (hm : Mv F (foot p X vl vw) w0 w) (hrow : w9.ownsRow lo 3 1 v9 (P.waits.length + 1) (ints P.waits ++ [.int .i64 who])) (hon : Only (fun k => vw.ownBlock = some k) (w.alloc o) w9)
    (hat : ∀ k, v9.ownBlock = some k → vw.ownBlock = some k ∨ (w.alloc o).heap.size ≤ k) : AskI F w0 (w9.setCell ⟨p, 7, none⟩ v9) lo p { P with waits := P.waits ++ [who] } q := by
  obtain ⟨⟨a, b, c, hb⟩, h2, h3⟩ := h
  obtain ⟨g1, g2⟩ := hp.appW hrow hon hat
  exact ⟨⟨a, b, c, hb.only g2.only (hp.not_ hb (by decide) (by decide) (by decide) (by decide))⟩, h2, X, vl, v9, g1, hm.trans g2⟩
theorem AskI.then_ {q : Nat} {w' : World} {P' : Pp} (h : AskI F w0 w lo p P q) (hp : Pw w lo p P X vl vw) (hm : Mv F (foot p X vl vw) w0 w) (k : PP (foot p X vl vw) w w' lo p P') : AskI F w0 w' lo p P' q := by
  obtain ⟨⟨a, b, c, hb⟩, h2, h3⟩ := h
  refine ⟨⟨a, b, c, ?_⟩, h2, PP.then_ hm k⟩
  obtain ⟨_, _, _, _, hk⟩ := k
  exact hb.only hk.only (hp.not_ hb (by decide) (by decide) (by decide) (by decide))
/-- What the two questions ahead of a gift read. -/
theorem ask_of (h : PP F w0 w lo p P) (who : Int) : ∃ X vl vw, Pw w lo p P X vl vw ∧ Mv F (foot p X vl vw) w0 w ∧ Calls Try.prog 24 #[ptr p, .int .i64 who] w (fun e w' => e = .returned (cptr X (ofI P who)) ∧ Only (fun _ => False) w w')
    ∧ ∀ w', Only (fun _ => False) w w' → w'.cell? ⟨p, 7, none⟩ = some vw ∧ p < w'.heap.size ∧ Calls Try.prog 25 #[vw, .int .i64 who] w' (fun e w'' => e = .returned (.bool (decide (who ∈ P.waits))) ∧ w' = w'') := by
  obtain ⟨X, vl, vw, h, hm⟩ := h
  refine ⟨X, vl, vw, h, hm, of_any h who, fun w' ho => ?_⟩
  have h' := h.only ho (fun _ _ h => h)
  exact ⟨h'.blk.cell 7 _ rfl, h'.blk.lt, contains_any h'.wt who⟩
set_option maxRecDepth 100000 in
set_option maxHeartbeats 800000 in
theorem ask_err7 (h : PP F w0 w lo p P) (now who : Int) (hm : isMoment now) (hw : 0 ≤ who) (hb : (ofI P who).isSome = true ∨ who ∈ P.waits) :
    Calls Try.prog 9 #[ptr p, .int .i64 now, .int .i64 who] w fun e w' => e = .returned (.tuple #[acV ⟨0, 0, 0⟩, .int .i64 7]) ∧ PP F w0 w' lo p P := by
  have z27 := zero27
  have hA := AskI.new h
  have HM := Lib.hid (fun w => moment_ok now w hm.1 hm.2)
  obtain ⟨X, vl, vw, hp, hmv, hof, hco⟩ := ask_of hA.pp who
  cases ho : ofI P who with
  | some i =>
    have hil := ofI_lt ho
    obtain ⟨b, hbx⟩ := hp.at_ hil
    have hcp : cptr X (some i) = ptr b := by simp [cptr, List.getD_eq_getElem?_getD, hbx]
    rw [ho, hcp] at hof
    have HOF := Lib.hid hof
    clear h hb hm hp hmv hof hco ho hil hbx hcp
    go_enter Try.func9, Try.ntmps9
    go_upto_region 1 with fail
    obtain ⟨q, hq⟩ : ∃ q, q = w.heap.size := ⟨_, rfl⟩
    rw [← hq] at hA ⊢
    clear hq
    generalize w.alloc (Obj.cells #[.int .i64 0, .int .i64 0, .int .i64 0] 27) = w1 at hA HOF ⊢
    have HA := Lib.hid hA
    clear hA
    go_upto_region 7 with (first
      | (go_at_call 23; (refine (HM.out _).mono ?_); rintro e w' ⟨rfl, rfl⟩)
      | (go_at_call 24; (refine HOF.out.mono ?_); rintro e w2 ⟨rfl, hd⟩; have HD := Lib.hid hd; clear hd))
    have HA2 := Lib.hid (HA.out.only0 HD.out)
    obtain ⟨a, b, c, g0, g1, g2, e0, e1, e2, hql⟩ := HA2.out.cells
    go_wp2_with fail
    obtain ⟨w5, hw5, r0, r1, r2, hl5, h5⟩ := HA2.out.lay (.int .i64 0) (.int .i64 0) (.int .i64 0)
    rw [← hw5]
    clear hw5 g0 g1 g2 e0 e1 e2
    (try simp only [Exit.inBlock, Exit.then])
    refine bodyPost_ret (v := .tuple #[.agg #[.int .i64 0, .int .i64 0, .int .i64 0], .int .i64 7]) (by simp [results, Try.results9, go_sem, r0, r1, r2]) rfl ?_
    exact ⟨rfl, h5⟩
  | none =>
    have hmem : who ∈ P.waits := hb.resolve_left (by rw [ho]; simp)
    rw [ho] at hof
    simp only [cptr] at hof
    have f1 : decide (who ∈ P.waits) = true := decide_eq_true hmem
    rw [f1] at hco
    have HOF := Lib.hid hof
    have HCO := Lib.hid hco
    clear h hb hm hp hmv hof hco ho hmem f1
    go_enter Try.func9, Try.ntmps9
    go_upto_region 1 with fail
    obtain ⟨q, hq⟩ : ∃ q, q = w.heap.size := ⟨_, rfl⟩
    rw [← hq] at hA ⊢
    clear hq
    generalize w.alloc (Obj.cells #[.int .i64 0, .int .i64 0, .int .i64 0] 27) = w1 at hA HOF HCO ⊢
    have HA := Lib.hid hA
    clear hA
    go_upto_region 7 with (first
      | (go_at_call 23; (refine (HM.out _).mono ?_); rintro e w' ⟨rfl, rfl⟩)
      | (go_at_call 24; (refine HOF.out.mono ?_); rintro e w2 ⟨rfl, hd⟩; have HD := Lib.hid hd; obtain ⟨d7, hpl, hcc⟩ := HCO.out w2 hd; have HCC := Lib.hid hcc; clear hd hcc)
      | (go_at_call 25; (refine HCC.out.mono ?_); rintro e w' ⟨rfl, rfl⟩))
    have HA2 := Lib.hid (HA.out.only0 HD.out)
    obtain ⟨a, b, c, g0, g1, g2, e0, e1, e2, hql⟩ := HA2.out.cells
    go_wp2_with fail
    obtain ⟨w5, hw5, r0, r1, r2, hl5, h5⟩ := HA2.out.lay (.int .i64 0) (.int .i64 0) (.int .i64 0)
    rw [← hw5]
    clear hw5 g0 g1 g2 e0 e1 e2
    (try simp only [Exit.inBlock, Exit.then])
    refine bodyPost_ret (v := .tuple #[.agg #[.int .i64 0, .int .i64 0, .int .i64 0], .int .i64 7]) (by simp [results, Try.results9, go_sem, r0, r1, r2]) rfl ?_
    exact ⟨rfl, h5⟩
set_option maxRecDepth 100000 in
set_option maxHeartbeats 800000 in
theorem ask_got (h : PP F w0 w lo p P) {k : Nat} (hk : Okp P k) (hk9 : k < 9223372036854775807) (now who : Int) (hm : isMoment now) (hw : 0 ≤ who) (hof0 : ofI P who = none) (hmem : who ∉ P.waits) {P2 : Pp} {x : Ac} (hg : give P now.toNat who = (P2, some x)) :
    Calls Try.prog 9 #[ptr p, .int .i64 now, .int .i64 who] w fun e w' => e = .returned (.tuple #[acV x, .int .i64 0]) ∧ PP F w0 w' lo p P2 := by
  have z27 := zero27
  obtain ⟨nn, rfl⟩ : ∃ nn : Nat, now = nn := ⟨now.toNat, by have := hm.1; omega⟩
  have hA := AskI.new h
  have HM := Lib.hid (fun w => moment_ok nn w hm.1 hm.2)
  obtain ⟨X, vl, vw, hp, hmv, hof, hco⟩ := ask_of hA.pp who
  rw [hof0] at hof
  simp only [cptr] at hof
  have f1 : decide (who ∈ P.waits) = false := decide_eq_false hmem
  rw [f1] at hco
  have hx1 : P.next < 9223372036854775807 := by have := hk.x; omega
  have HG := Lib.hid (fun (w' : World) (ho : Only (fun _ => False) (w.alloc (Obj.cells #[.int .i64 0, .int .i64 0, .int .i64 0] 27)) w') => give_any (hp.only ho (fun _ _ h => h)) hk.n hk.t nn who hx1)
  rw [show nn = (nn : Int).toNat from rfl, hg] at HG
  have HP := Lib.hid hp
  have HMV := Lib.hid hmv
  have HOF := Lib.hid hof
  have HCO := Lib.hid hco
  clear h hk hm hp hmv hof hco f1 hmem hof0 hx1 hg
  go_enter Try.func9, Try.ntmps9
  go_upto_region 1 with fail
  obtain ⟨q, hq⟩ : ∃ q, q = w.heap.size := ⟨_, rfl⟩
  rw [← hq] at hA ⊢
  clear hq
  generalize w.alloc (Obj.cells #[.int .i64 0, .int .i64 0, .int .i64 0] 27) = w1 at hA HOF HCO HG HP HMV ⊢
  have HA := Lib.hid hA
  clear hA
  go_upto_region 10 with (first
    | (go_at_call 23; (refine (HM.out _).mono ?_); rintro e w' ⟨rfl, rfl⟩)
    | (go_at_call 24; (refine HOF.out.mono ?_); rintro e w2 ⟨rfl, hd⟩; have HD := Lib.hid hd; obtain ⟨d7, hpl, hcc⟩ := HCO.out w2 hd; have HCC := Lib.hid hcc; clear hd hcc)
    | (go_at_call 25; (refine HCC.out.mono ?_); rintro e w' ⟨rfl, rfl⟩)
    | (go_at_call 26; (refine (HG.out _ HD.out).mono ?_); rintro e w3 ⟨rfl, hP⟩; have HPP := Lib.hid hP; clear hP; simp only [gvV]))
  have HA3 := Lib.hid ((HA.out.only0 HD.out).then_ (HP.out.only HD.out (fun _ _ h => h)) (HMV.out.trans (Mv.of_only HD.out)) HPP.out)
  have ho4 : Only (fun _ => False) w3 (w3.alloc (Obj.cells #[.int .i64 x.kind, .int .i64 x.conn, .int .i64 x.who] 27)) := (Only.refl _ _).alloc _
  have hb4 : Blk (w3.alloc (Obj.cells #[.int .i64 x.kind, .int .i64 x.conn, .int .i64 x.who] 27)) w3.heap.size (acC x) 27 := Blk.new w3 (acC x) 27
  obtain ⟨q2, hq2⟩ : ∃ q2, q2 = w3.heap.size := ⟨_, rfl⟩
  rw [← hq2] at hb4 ⊢
  have HA4 := Lib.hid (HA3.out.only0 ho4)
  clear hq2 d7 hpl
  generalize w3.alloc (Obj.cells #[.int .i64 x.kind, .int .i64 x.conn, .int .i64 x.who] 27) = w4 at hb4 HA4 ⊢
  have k0 := hb4.cell 0 _ rfl
  have k1 := hb4.cell 1 _ rfl
  have k2 := hb4.cell 2 _ rfl
  have hq2l := hb4.lt
  obtain ⟨a, b, c, g0, g1, g2, e0, e1, e2, hql⟩ := HA4.out.cells
  clear hb4 ho4
  go_wp2_with fail
  obtain ⟨w5, hw5, r0, r1, r2, hl5, h5⟩ := HA4.out.lay (.int .i64 x.kind) (.int .i64 x.conn) (.int .i64 x.who)
  rw [← hw5]
  clear hw5 g0 g1 g2 e0 e1 e2
  (try simp only [Exit.inBlock, Exit.then])
  refine bodyPost_ret (v := .tuple #[.agg #[.int .i64 x.kind, .int .i64 x.conn, .int .i64 x.who], .int .i64 0]) (by simp [results, Try.results9, go_sem, r0, r1, r2]) rfl ?_
  exact ⟨rfl, h5⟩
set_option maxRecDepth 100000 in
set_option maxHeartbeats 800000 in
theorem ask_full (h : PP F w0 w lo p P) {k : Nat} (hk : Okp P k) (hk9 : k < 9223372036854775807) (now who : Int) (hm : isMoment now) (hw : 0 ≤ who) (hof0 : ofI P who = none) (hmem : who ∉ P.waits) (hg : give P now.toNat who = (P, none)) (hfl : P.pend ≤ P.waits.length) :
    Calls Try.prog 9 #[ptr p, .int .i64 now, .int .i64 who] w fun e w' => e = .returned (.tuple #[acV ⟨4, -1, who⟩, .int .i64 0]) ∧ PP F w0 w' lo p P := by
  have z27 := zero27
  obtain ⟨nn, rfl⟩ : ∃ nn : Nat, now = nn := ⟨now.toNat, by have := hm.1; omega⟩
  have hA := AskI.new h
  have HM := Lib.hid (fun w => moment_ok nn w hm.1 hm.2)
  obtain ⟨X, vl, vw, hp, hmv, hof, hco⟩ := ask_of hA.pp who
  rw [hof0] at hof
  simp only [cptr] at hof
  have f1 : decide (who ∈ P.waits) = false := decide_eq_false hmem
  rw [f1] at hco
  have hx1 : P.next < 9223372036854775807 := by have := hk.x; omega
  have HG := Lib.hid (fun (w' : World) (ho : Only (fun _ => False) (w.alloc (Obj.cells #[.int .i64 0, .int .i64 0, .int .i64 0] 27)) w') => give_any (hp.only ho (fun _ _ h => h)) hk.n hk.t nn who hx1)
  rw [show nn = (nn : Int).toNat from rfl, hg] at HG
  have HP := Lib.hid hp
  have HMV := Lib.hid hmv
  have HOF := Lib.hid hof
  have HCO := Lib.hid hco
  have hc64 := hk.w64
  clear h hk hm hp hmv hof hco f1 hmem hof0 hx1 hg
  go_enter Try.func9, Try.ntmps9
  go_upto_region 1 with fail
  obtain ⟨q, hq⟩ : ∃ q, q = w.heap.size := ⟨_, rfl⟩
  rw [← hq] at hA ⊢
  clear hq
  generalize w.alloc (Obj.cells #[.int .i64 0, .int .i64 0, .int .i64 0] 27) = w1 at hA HOF HCO HG HP HMV ⊢
  have HA := Lib.hid hA
  clear hA
  go_upto_region 11 with (first
    | (go_at_call 23; (refine (HM.out _).mono ?_); rintro e w' ⟨rfl, rfl⟩)
    | (go_at_call 24; (refine HOF.out.mono ?_); rintro e w2 ⟨rfl, hd⟩; have HD := Lib.hid hd; obtain ⟨d7, hpl, hcc⟩ := HCO.out w2 hd; have HCC := Lib.hid hcc; clear hd hcc)
    | (go_at_call 25; (refine HCC.out.mono ?_); rintro e w' ⟨rfl, rfl⟩)
    | (go_at_call 26; (refine (HG.out _ HD.out).mono ?_); rintro e w3 ⟨rfl, hP⟩; have HPP := Lib.hid hP; clear hP; simp only [gvV]))
  have HA3 := Lib.hid ((HA.out.only0 HD.out).then_ (HP.out.only HD.out (fun _ _ h => h)) (HMV.out.trans (Mv.of_only HD.out)) HPP.out)
  have ho4 : Only (fun _ => False) w3 (w3.alloc (Obj.cells #[.int .i64 0, .int .i64 0, .int .i64 0] 27)) := (Only.refl _ _).alloc _
  have HA4 := Lib.hid (HA3.out.only0 ho4)
  generalize hq2 : w3.heap.size = q2
  clear hq2 d7 hpl ho4
  generalize w3.alloc (Obj.cells #[.int .i64 0, .int .i64 0, .int .i64 0] 27) = w4 at HA4 ⊢
  obtain ⟨X4, vl4, vw4, hp4, hm4⟩ := HA4.out.pp
  obtain ⟨n, hn⟩ : ∃ n, n = P.waits.length := ⟨_, rfl⟩
  obtain ⟨aw, cw, rfl, hw1, hw2, _, _⟩ := hp4.wt.slice
  have d7 := hp4.blk.cell 7 _ rfl
  have d1 := hp4.blk.cell 1 _ rfl
  have hpl := hp4.blk.lt
  rw [← hn] at hw1 d7 hfl hc64
  have hcw : cw ≤ 9223372036854775807 := by unfold maxLen at hw2; omega
  generalize P.pend = pd at d1 hfl
  have f2 : decide ((pd : Int) ≤ (n : Int)) = true := decide_eq_true (by omega)
  have f2n : decide (pd ≤ n) = true := decide_eq_true hfl
  clear hp4 hm4 hn hw2
  go_quiet (fail)
  have HA5 := Lib.hid (HA4.out.only0 ((Drawn.of w4 nq).only (fun _ => False)))
  clear d7 d1 hpl
  generalize w4.drewN nq = w5 at HA5 ⊢
  obtain ⟨a, b, c, g0, g1, g2, e0, e1, e2, hql⟩ := HA5.out.cells
  go_wp2_with fail
  obtain ⟨w6, hw6, r0, r1, r2, hl5, h5⟩ := HA5.out.lay (.int .i64 4) (.int .i64 (-1)) (.int .i64 who)
  rw [← hw6]
  clear hw6 g0 g1 g2 e0 e1 e2
  (try simp only [Exit.inBlock, Exit.then])
  refine bodyPost_ret (v := .tuple #[.agg #[.int .i64 4, .int .i64 (-1), .int .i64 who], .int .i64 0]) (by simp [results, Try.results9, go_sem, r0, r1, r2]) rfl ?_
  exact ⟨rfl, h5⟩
set_option maxRecDepth 100000 in
set_option maxHeartbeats 800000 in
theorem ask_wait (h : PP F w0 w lo p P) {k : Nat} (hk : Okp P k) (hk9 : k < 9223372036854775807) (now who : Int) (hm : isMoment now) (hw : 0 ≤ who) (hof0 : ofI P who = none) (hmem : who ∉ P.waits) (hg : give P now.toNat who = (P, none)) (hfl : ¬ P.pend ≤ P.waits.length) :
    Calls Try.prog 9 #[ptr p, .int .i64 now, .int .i64 who] w fun e w' => e = .returned (.tuple #[acV ⟨3, -1, who⟩, .int .i64 0]) ∧ PP F w0 w' lo p { P with waits := P.waits ++ [who] } := by
  have z27 := zero27
  obtain ⟨i3, hi3, hz0, hz1, hz2⟩ := info_parts Try.info3
  obtain ⟨nn, rfl⟩ : ∃ nn : Nat, now = nn := ⟨now.toNat, by have := hm.1; omega⟩
  have hA := AskI.new h
  have HM := Lib.hid (fun w => moment_ok nn w hm.1 hm.2)
  obtain ⟨X, vl, vw, hp, hmv, hof, hco⟩ := ask_of hA.pp who
  rw [hof0] at hof
  simp only [cptr] at hof
  have f1 : decide (who ∈ P.waits) = false := decide_eq_false hmem
  rw [f1] at hco
  have hx1 : P.next < 9223372036854775807 := by have := hk.x; omega
  have HG := Lib.hid (fun (w' : World) (ho : Only (fun _ => False) (w.alloc (Obj.cells #[.int .i64 0, .int .i64 0, .int .i64 0] 27)) w') => give_any (hp.only ho (fun _ _ h => h)) hk.n hk.t nn who hx1)
  rw [show nn = (nn : Int).toNat from rfl, hg] at HG
  have HP := Lib.hid hp
  have HMV := Lib.hid hmv
  have HOF := Lib.hid hof
  have HCO := Lib.hid hco
  have hc64 := hk.w64
  clear h hk hm hp hmv hof hco f1 hmem hof0 hx1 hg
  go_enter Try.func9, Try.ntmps9
  go_upto_region 1 with fail
  obtain ⟨q, hq⟩ : ∃ q, q = w.heap.size := ⟨_, rfl⟩
  rw [← hq] at hA ⊢
  clear hq
  generalize w.alloc (Obj.cells #[.int .i64 0, .int .i64 0, .int .i64 0] 27) = w1 at hA HOF HCO HG HP HMV ⊢
  have HA := Lib.hid hA
  clear hA
  go_upto_region 11 with (first
    | (go_at_call 23; (refine (HM.out _).mono ?_); rintro e w' ⟨rfl, rfl⟩)
    | (go_at_call 24; (refine HOF.out.mono ?_); rintro e w2 ⟨rfl, hd⟩; have HD := Lib.hid hd; obtain ⟨d7, hpl, hcc⟩ := HCO.out w2 hd; have HCC := Lib.hid hcc; clear hd hcc)
    | (go_at_call 25; (refine HCC.out.mono ?_); rintro e w' ⟨rfl, rfl⟩)
    | (go_at_call 26; (refine (HG.out _ HD.out).mono ?_); rintro e w3 ⟨rfl, hP⟩; have HPP := Lib.hid hP; clear hP; simp only [gvV]))
  have HA3 := Lib.hid ((HA.out.only0 HD.out).then_ (HP.out.only HD.out (fun _ _ h => h)) (HMV.out.trans (Mv.of_only HD.out)) HPP.out)
  have ho4 : Only (fun _ => False) w3 (w3.alloc (Obj.cells #[.int .i64 0, .int .i64 0, .int .i64 0] 27)) := (Only.refl _ _).alloc _
  have HA4 := Lib.hid (HA3.out.only0 ho4)
  generalize hq2 : w3.heap.size = q2
  clear hq2 d7 hpl ho4
  generalize w3.alloc (Obj.cells #[.int .i64 0, .int .i64 0, .int .i64 0] 27) = w4 at HA4 ⊢
  obtain ⟨X4, vl4, vw4, hp4, hm4⟩ := HA4.out.pp
  obtain ⟨n, hn⟩ : ∃ n, n = P.waits.length := ⟨_, rfl⟩
  obtain ⟨aw, cw, rfl, hw1, hw2, _, _⟩ := hp4.wt.slice
  have d7 := hp4.blk.cell 7 _ rfl
  have d1 := hp4.blk.cell 1 _ rfl
  have hpl := hp4.blk.lt
  rw [← hn] at hw1 d7 hfl hc64
  have hcw : cw ≤ 9223372036854775807 := by unfold maxLen at hw2; omega
  generalize P.pend = pd at d1 hfl
  have f2 : decide ((pd : Int) ≤ (n : Int)) = false := decide_eq_false (by omega)
  have f2n : decide (pd ≤ n) = false := decide_eq_false hfl
  have HN := Lib.hid hn
  clear hp4 hm4 hn hw2
  go_quiet (fail)
  have HA5 := Lib.hid (HA4.out.only0 ((Drawn.of w4 nq).only (fun _ => False)))
  clear d7 d1 hpl
  generalize w4.drewN nq = w5 at HA5 ⊢
  obtain ⟨X5, vl5, vw5, hp5, hm5⟩ := HA5.out.pp
  obtain ⟨aw5, cw5, rfl, hw51, hw52, _, _⟩ := hp5.wt.slice
  have d7 := hp5.blk.cell 7 _ rfl
  have hpl := hp5.blk.lt
  have hlo5 : lo ≤ w5.heap.size := by have := hp5.low; omega
  have HP5 := Lib.hid hp5
  have HM5 := Lib.hid hm5
  have hc64' : P.waits.length ≤ 1000 := by rw [← HN.out]; omega
  have HC64 := Lib.hid hc64'
  clear hp5 hm5 hc64'
  go_upto_region 14 with (at_builtin; refine wpList_append_wait rfl (.tmp 62) (.tmp 64) rfl lo i3 hi3 hz0 hz1 hz2 (.slice aw5 P.waits.length cw5) P.waits rfl ((WRow.only HP5.out.wt ((Only.refl (fun _ => False) w5).alloc _) (fun _ _ h => h))) ⟨w5.heap.size, 0, none⟩ who rfl (new_one _ _ _) HC64.out (by simp only [World.size_alloc]; omega) ?_; intro v9 w9 hown9 hon9 hat9; obtain ⟨a9, k9, rfl, _, _, _, _⟩ := ownsRow_slice hown9; have HO9 := Lib.hid hown9; have HN9 := Lib.hid hon9; have HA9 := Lib.hid hat9; have hb9 := (HP5.out.blk.alloc (Obj.cells #[.int .i64 who] 3)).only hon9 (fun e => HP5.out.nw e); have g7 := hb9.cell 7 _ rfl; have f7 := hb9.free 7; have hpl9 := hb9.lt; clear hown9 hon9 hat9 hb9)
  have hA10 := HA5.out.app HP5.out HM5.out HO9.out HN9.out HA9.out
  clear g7 f7 hpl9 d7 hpl
  generalize w9.setCell ⟨p, 7, none⟩ (.slice a9 (P.waits.length + 1) k9) = w10 at hA10 ⊢
  obtain ⟨a, b, c, g0, g1, g2, e0, e1, e2, hql⟩ := hA10.cells
  have HA10 := Lib.hid hA10
  clear hA10
  go_wp2_with fail
  obtain ⟨w6, hw6, r0, r1, r2, hl5, h5⟩ := HA10.out.lay (.int .i64 3) (.int .i64 (-1)) (.int .i64 who)
  rw [← hw6]
  clear hw6 g0 g1 g2 e0 e1 e2
  (try simp only [Exit.inBlock, Exit.then])
  refine bodyPost_ret (v := .tuple #[.agg #[.int .i64 3, .int .i64 (-1), .int .i64 who], .int .i64 0]) (by simp [results, Try.results9, go_sem, r0, r1, r2]) rfl ?_
  exact ⟨rfl, h5⟩
/-- Somebody asks. -/
theorem ask_any (h : PP F w0 w lo p P) {k : Nat} (hk : Okp P k) (hk9 : k < 9223372036854775807) (now who : Int) :
    Calls Try.prog 9 #[ptr p, .int .i64 now, .int .i64 who] w fun e w' => e = .returned (.tuple #[acV (ask P now who).2.1, .int .i64 (ask P now who).2.2]) ∧ PP F w0 w' lo p (ask P now who).1 := by
  unfold ask
  by_cases h1 : ¬ isMoment now ∨ who < 0
  · rw [if_pos h1]; exact ask_err1 h now who h1
  · rw [if_neg h1]
    have hm : isMoment now := Classical.byContradiction fun e => h1 (.inl e)
    have hw : 0 ≤ who := by have := fun e => h1 (.inr e); omega
    by_cases h2 : (ofI P who).isSome = true ∨ who ∈ P.waits
    · rw [if_pos h2]; exact ask_err7 h now who hm hw h2
    · rw [if_neg h2]
      have ho : ofI P who = none := by
        cases ho : ofI P who with
        | none => rfl
        | some i => exact absurd (.inl (by rw [ho]; rfl)) h2
      have hmem : who ∉ P.waits := fun e => h2 (.inr e)
      cases hg : give P now.toNat who with
      | mk P2 og =>
        cases og with
        | some x => exact ask_got h hk hk9 now who hm hw ho hmem hg
        | none =>
          have e := (give_none hg).1
          subst e
          simp only
          by_cases hf : P2.pend ≤ P2.waits.length
          · rw [if_pos hf]; exact ask_full h hk hk9 now who hm hw ho hmem hg hf
          · rw [if_neg hf]; exact ask_wait h hk hk9 now who hm hw ho hmem hg hf
end
end Go.Proofs.Ytmpcffkandmacaa
