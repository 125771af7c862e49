/- What a law keeps between the calls. -/
import Derived.Test.YtlcblfkmadjppaaWalks14
namespace Go.Proofs.Ytlcblfkmadjppaa
open Go.RowKit
set_option linter.unusedVariables false
set_option linter.unusedSimpArgs false

/-- What a step does. -/
def stepI (r : Rq) (k now id why : Int) (allow : Bool) : Rq × List Ac × Int :=
  if k = 0 then failI r now id why allow else if k = 1 then headI r now id why allow else timeI r now allow
theorem okq_step {r : Rq} (h : Okq r) (k now id why : Int) (allow : Bool) : Okq (stepI r k now id why allow).1 := by
  have toN : ∀ now : Int, isMoment now → now.toNat ≤ 4611686018427387904 := fun now hm => by unfold isMoment at hm; omega
  unfold stepI
  split
  · unfold failI
    split
    · exact h
    · rename_i h1
      split
      · exact h
      · rename_i h2
        exact h.of_fails _ (toN _ (Classical.not_not.1 (fun hh => h1 (.inl hh)))) _ _ _ (hasR_over (by simpa using h2))
  · split
    · unfold headI
      split
      · exact h
      · rename_i h1
        split
        · exact h
        · rename_i h2
          split
          · exact h
          · exact h.of_head _ (toN _ (Classical.not_not.1 h1)) _ _ _ (by simpa using h2)
    · unfold timeI
      split
      · exact h
      · rename_i h1
        exact h.of_time _ (toN _ (Classical.not_not.1 h1)) _

abbrev Kept := List (Nat × List Value × TypeId)
/-- The law's request; blocks of the law's own beside it. -/
def Lq (w0 w : World) (q : Nat) (r : Rq) (K : Kept) : Prop :=
  ∃ F, RQ F w w0.heap.size q r [] ∧ Below w0.heap.size w0 w ∧ Okq r ∧ ∀ x ∈ K, Blk w x.1 x.2.1 x.2.2 ∧ ¬ F x.1 ∧ w0.heap.size ≤ x.1
section
variable {w0 w : World} {q : Nat} {r : Rq} {K : Kept}
theorem Lq.below (h : Lq w0 w q r K) : Below w0.heap.size w0 w := by obtain ⟨F, _, h, _⟩ := h; exact h
theorem Lq.size (h : Lq w0 w q r K) : w0.heap.size ≤ w.heap.size := h.below.size
theorem Lq.ok (h : Lq w0 w q r K) : Okq r := by obtain ⟨F, _, _, h, _⟩ := h; exact h
theorem Lq.kept (h : Lq w0 w q r K) {x : Nat × List Value × TypeId} (hx : x ∈ K) : Blk w x.1 x.2.1 x.2.2 := by obtain ⟨F, _, _, _, h⟩ := h; exact (h x hx).1
theorem Lq.only {w' : World} (h : Lq w0 w q r K) (ho : Only (fun _ => False) w w') : Lq w0 w' q r K := by
  obtain ⟨F, h1, h2, h3, h4⟩ := h
  exact ⟨F, h1.only ho (fun _ _ h => h), below_only h2 ho h2.size (fun _ h => h.elim), h3, fun x hx => by obtain ⟨a, b, c⟩ := h4 x hx; exact ⟨a.only ho (fun h => h), b, c⟩⟩
theorem Lq.sub {K' : Kept} (h : Lq w0 w q r K) (hk : ∀ x ∈ K', x ∈ K) : Lq w0 w q r K' := by
  obtain ⟨F, h1, h2, h3, h4⟩ := h
  exact ⟨F, h1, h2, h3, fun x hx => h4 x (hk x hx)⟩
theorem Lq.new_ {cs : List Value} {t : TypeId} (h : Lq w0 w q r K) : Lq w0 (w.alloc (.cells cs.toArray t)) q r ((w.heap.size, cs, t) :: K) := by
  have h0 := h.only ((Only.refl _ w).alloc (.cells cs.toArray t))
  obtain ⟨F, h1, h2, h3, h4⟩ := h
  obtain ⟨F', g1, g2, g3, g4⟩ := h0
  have ho : Only (fun _ => False) w (w.alloc (.cells cs.toArray t)) := (Only.refl _ w).alloc _
  refine ⟨F, h1.only ho (fun _ _ h => h), g2, h3, fun x hx => ?_⟩
  rcases List.mem_cons.1 hx with rfl | hx
  · exact ⟨Blk.new w cs t, fun hf => by have := (h1.lt _ hf).2; omega, h2.size⟩
  · obtain ⟨a, b, c⟩ := h4 x hx
    exact ⟨a.only ho (fun h => h), b, c⟩
/-- A cell of a block of the law's own is turned. -/
theorem Lq.put {b : Nat} {cs : List Value} {t : TypeId} (h : Lq w0 w q r ((b, cs, t) :: K)) (hd : ∀ x ∈ K, x.1 ≠ b) (i : Nat) (v : Value) : Lq w0 (w.setCell ⟨b, i, none⟩ v) q r ((b, cs.set i v, t) :: K) := by
  obtain ⟨F, h1, h2, h3, h4⟩ := h
  obtain ⟨a0, b0, c0⟩ := h4 (b, cs, t) (List.mem_cons_self ..)
  have ho := only_p w b i v
  refine ⟨F, h1.only ho (fun k hk e => b0 (by rw [← e]; exact hk)), below_only h2 ho h2.size (fun k e => by rw [e]; exact c0), h3, fun x hx => ?_⟩
  rcases List.mem_cons.1 hx with rfl | hx
  · exact ⟨a0.set i v, b0, c0⟩
  · obtain ⟨a, c, d⟩ := h4 x (List.mem_cons_of_mem _ hx)
    exact ⟨a.only ho (hd x hx), c, d⟩
theorem Lq.told {F : Nat → Prop} {w' : World} {r' : Rq} {v : Value} {l : List Ac} (h1 : RQ F w w0.heap.size q r []) (h2 : Below w0.heap.size w0 w) (h4 : ∀ x ∈ K, Blk w x.1 x.2.1 x.2.2 ∧ ¬ F x.1 ∧ w0.heap.size ≤ x.1)
    (ht : Told F w w' w0.heap.size q r' v l) (hok : Okq r') : Lq w0 w' q r' K ∧ w'.ownsRow w0.heap.size 37 3 v l.length (acCells l) := by
  obtain ⟨F', t1, t2, t3, t4, t5⟩ := ht
  refine ⟨⟨F', t1, below_only h2 t2.only h2.size (fun k hk => (h1.lt k hk).1), hok, fun x hx => ?_⟩, t3⟩
  obtain ⟨a, b, c⟩ := h4 x hx
  exact ⟨a.only t2.only b, fun hf => (t2.new_ x.1 hf).elim b (fun hl => by have := a.lt; omega), c⟩

/-- A row of acts as a block of the law's own. -/
theorem Lq.told_keep {F : Nat → Prop} {w' : World} {r' : Rq} {v : Value} {l : List Ac} (h1 : RQ F w w0.heap.size q r []) (h2 : Below w0.heap.size w0 w) (h4 : ∀ x ∈ K, Blk w x.1 x.2.1 x.2.2 ∧ ¬ F x.1 ∧ w0.heap.size ≤ x.1)
    (ht : Told F w w' w0.heap.size q r' v l) (hok : Okq r') (hl : 0 < l.length) : ∃ g cap C, v = .slice (some ⟨g, 0, none⟩) l.length cap ∧ l.length ≤ cap ∧ cap ≤ 9223372036854775807 ∧ Lq w0 w' q r' ((g, acCells l ++ C, 37) :: K) := by
  have hL := (Lq.told h1 h2 h4 ht hok).1
  obtain ⟨F', t1, t2, t3, t4, t5⟩ := ht
  obtain ⟨g, cap, C, rfl, hlo, hb, hc1, hc2, _⟩ := ownsRow_blk t3 hl
  refine ⟨g, cap, C, rfl, hc1, by unfold maxLen at hc2; omega, F', t1, below_only h2 t2.only h2.size (fun k hk => (h1.lt k hk).1), hok, fun x hx => ?_⟩
  rcases List.mem_cons.1 hx with rfl | hx
  · exact ⟨hb, t4 g rfl, hlo⟩
  · obtain ⟨a, b, c⟩ := h4 x hx
    exact ⟨a.only t2.only b, fun hf => (t2.new_ x.1 hf).elim b (fun hl => by have := a.lt; omega), c⟩
theorem lq_begun_keep {w1 : World} {v : Value} (hb : Below w0.heap.size w0 w) (hB : Begun w w1 q r v) (hok : Okq r) (hk : ∀ x ∈ K, Blk w x.1 x.2.1 x.2.2 ∧ w0.heap.size ≤ x.1) :
    ∃ g cap C, v = .slice (some ⟨g, 0, none⟩) 1 cap ∧ 1 ≤ cap ∧ cap ≤ 9223372036854775807 ∧ Lq w0 w1 q r ((g, acCells [⟨1, 0, 0⟩] ++ C, 37) :: K) := by
  obtain ⟨F, h1, hap⟩ := hB.rq
  obtain ⟨g, cap, C, rfl, hlo, hbk, hc1, hc2, _⟩ := ownsRow_blk hB.row (by decide)
  have hlow : ∀ {lo lo' : Nat} {o : List Ac}, RQ F w1 lo q r o → lo' ≤ lo → RQ F w1 lo' q r o := fun h hl => by
    obtain ⟨vr, vo, h, rfl⟩ := h
    exact ⟨vr, vo, ⟨h.blk, ownsRow_lower h.runs hl, ownsRow_lower h.out hl, Nat.le_trans hl h.low⟩, rfl⟩
  have hsz := hb.size
  refine ⟨g, cap, C, rfl, hc1, by unfold maxLen at hc2; omega, F, hlow h1 hb.size, hb.trans (hB.below.mono hb.size), hok, fun x hx => ?_⟩
  rcases List.mem_cons.1 hx with rfl | hx
  · exact ⟨hbk, hap g rfl, Nat.le_trans hsz hlo⟩
  · obtain ⟨a, b⟩ := hk x hx
    exact ⟨a.below hB.below a.lt, fun hf => by have := (h1.lt _ hf).1; have := a.lt; omega, b⟩
theorem lq_fail_keep (h : Lq w0 w q r K) (now id why : Int) (allow : Bool) (r' : Rq) (l : List Ac) (err : Int) (he : failI r now id why allow = (r', l, err)) (hl : 0 < l.length) :
    Calls Try.prog 23 #[.pointer (some ⟨q, 0, none⟩), .int .i64 now, .int .i64 id, .int .i64 why, .bool allow] w fun e w' =>
      ∃ g cap C, e = .returned (.tuple #[.slice (some ⟨g, 0, none⟩) l.length cap, .int .i64 err]) ∧ l.length ≤ cap ∧ cap ≤ 9223372036854775807 ∧ Lq w0 w' q r' ((g, acCells l ++ C, 37) :: K) := by
  obtain ⟨F, h1, h2, h3, h4⟩ := h
  have hok := okq_step h3 0 now id why allow
  have e1 : stepI r 0 now id why allow = failI r now id why allow := by unfold stepI; rw [if_pos rfl]
  rw [e1, he] at hok
  have hf := fail_any h1 h3 now id why allow
  rw [he] at hf
  refine hf.mono ?_
  rintro e w' ⟨v, rfl, hT⟩
  obtain ⟨g, cap, C, rfl, hc1, hc2, hL⟩ := Lq.told_keep h1 h2 h4 hT hok hl
  exact ⟨g, cap, C, rfl, hc1, hc2, hL⟩

theorem lq_fail (h : Lq w0 w q r K) (now id why : Int) (allow : Bool) :
    Calls Try.prog 23 #[.pointer (some ⟨q, 0, none⟩), .int .i64 now, .int .i64 id, .int .i64 why, .bool allow] w fun e w' =>
      ∃ v, e = .returned (.tuple #[v, .int .i64 (failI r now id why allow).2.2]) ∧ Lq w0 w' q (failI r now id why allow).1 K ∧ w'.ownsRow w0.heap.size 37 3 v (failI r now id why allow).2.1.length (acCells (failI r now id why allow).2.1) := by
  obtain ⟨F, h1, h2, h3, h4⟩ := h
  refine (fail_any h1 h3 now id why allow).mono ?_
  rintro e w' ⟨v, rfl, hT⟩
  have hok := okq_step h3 0 now id why allow
  exact ⟨v, rfl, Lq.told h1 h2 h4 hT hok⟩
theorem lq_head (h : Lq w0 w q r K) (now id why : Int) (allow : Bool) :
    Calls Try.prog 24 #[.pointer (some ⟨q, 0, none⟩), .int .i64 now, .int .i64 id, .int .i64 why, .bool allow] w fun e w' =>
      ∃ v, e = .returned (.tuple #[v, .int .i64 (headI r now id why allow).2.2]) ∧ Lq w0 w' q (headI r now id why allow).1 K ∧ w'.ownsRow w0.heap.size 37 3 v (headI r now id why allow).2.1.length (acCells (headI r now id why allow).2.1) := by
  obtain ⟨F, h1, h2, h3, h4⟩ := h
  refine (head_any h1 h3 now id why allow).mono ?_
  rintro e w' ⟨v, rfl, hT⟩
  have hok := okq_step h3 1 now id why allow
  exact ⟨v, rfl, Lq.told h1 h2 h4 hT hok⟩
theorem lq_time (h : Lq w0 w q r K) (now : Int) (allow : Bool) :
    Calls Try.prog 22 #[.pointer (some ⟨q, 0, none⟩), .int .i64 now, .bool allow] w fun e w' =>
      ∃ v, e = .returned (.tuple #[v, .int .i64 (timeI r now allow).2.2]) ∧ Lq w0 w' q (timeI r now allow).1 K ∧ w'.ownsRow w0.heap.size 37 3 v (timeI r now allow).2.1.length (acCells (timeI r now allow).2.1) := by
  obtain ⟨F, h1, h2, h3, h4⟩ := h
  refine (time_any h1 h3 now allow).mono ?_
  rintro e w' ⟨v, rfl, hT⟩
  have hok := okq_step h3 2 now 0 0 allow
  exact ⟨v, rfl, Lq.told h1 h2 h4 hT hok⟩
theorem lq_over (h : Lq w0 w q r K) : Calls Try.prog 12 #[.pointer (some ⟨q, 0, none⟩)] w fun e w' => e = .returned (.bool r.over) ∧ w = w' := by
  obtain ⟨F, h1, _⟩ := h
  exact over_any h1
theorem lq_running (h : Lq w0 w q r K) : Calls Try.prog 13 #[.pointer (some ⟨q, 0, none⟩)] w fun e w' => ∃ v, e = .returned v ∧ Ints w' w.heap.size v (idsOf r.runs) ∧ Only (fun _ => False) w w' := by
  obtain ⟨F, h1, h2, h3, _⟩ := h
  exact running_any h1 h3.w
theorem rq_lower {F : Nat → Prop} {lo lo' : Nat} {o : List Ac} (h : RQ F w lo q r o) (hl : lo' ≤ lo) : RQ F w lo' q r o := by
  obtain ⟨vr, vo, h, rfl⟩ := h
  exact ⟨vr, vo, ⟨h.blk, ownsRow_lower h.runs hl, ownsRow_lower h.out hl, Nat.le_trans hl h.low⟩, rfl⟩
/-- A request that began in a world of the law's own. -/
theorem lq_begun {w1 : World} {v : Value} (hb : Below w0.heap.size w0 w) (hB : Begun w w1 q r v) (hok : Okq r) (hk : ∀ x ∈ K, Blk w x.1 x.2.1 x.2.2 ∧ w0.heap.size ≤ x.1) : Lq w0 w1 q r K ∧ w1.ownsRow w0.heap.size 37 3 v 1 (acCells [⟨1, 0, 0⟩]) := by
  obtain ⟨F, h1, _⟩ := hB.rq
  refine ⟨⟨F, rq_lower h1 hb.size, hb.trans (hB.below.mono hb.size), hok, fun x hx => ?_⟩, ownsRow_lower hB.row hb.size⟩
  obtain ⟨a, b⟩ := hk x hx
  exact ⟨a.below hB.below a.lt, fun hf => by have := (h1.lt _ hf).1; have := a.lt; omega, b⟩

abbrev stepV (k now id why : Int) (allow : Bool) : Value := .agg #[.int .i64 k, .int .i64 now, .int .i64 id, .int .i64 why, .bool allow]
set_option maxRecDepth 100000 in
theorem does_any (h : Lq w0 w q r K) (k now id why : Int) (allow : Bool) :
    Calls Try.prog 11 #[.pointer (some ⟨q, 0, none⟩), stepV k now id why allow] w fun e w' =>
      ∃ v, e = .returned (.tuple #[v, .int .i64 (stepI r k now id why allow).2.2]) ∧ Lq w0 w' q (stepI r k now id why allow).1 K ∧ w'.ownsRow w0.heap.size 37 3 v (stepI r k now id why allow).2.1.length (acCells (stepI r k now id why allow).2.1) := by
  unfold stepI
  have H := Lib.hid h
  clear h
  rcases (show k = 0 ∨ k = 1 ∨ (k ≠ 0 ∧ k ≠ 1) by omega) with rfl | rfl | ⟨hk0, hk1⟩
  · rw [if_pos rfl]
    go_enter Try.func11, Try.ntmps11
    go_upto_region 1 with fail
    have hbx : Blk (w.alloc (Obj.cells #[.int .i64 0, .int .i64 now, .int .i64 id, .int .i64 why, .bool allow] 33)) w.heap.size [.int .i64 0, .int .i64 now, .int .i64 id, .int .i64 why, .bool allow] 33 := Blk.new w [.int .i64 0, .int .i64 now, .int .i64 id, .int .i64 why, .bool allow] 33
    have hL := H.out.only ((Only.refl (fun _ => False) w).alloc (Obj.cells #[.int .i64 0, .int .i64 now, .int .i64 id, .int .i64 why, .bool allow] 33))
    generalize w.alloc (Obj.cells #[.int .i64 0, .int .i64 now, .int .i64 id, .int .i64 why, .bool allow] 33) = w1 at hbx hL ⊢
    have c0 := hbx.cell 0 _ rfl
    have c1 := hbx.cell 1 _ rfl
    have c2 := hbx.cell 2 _ rfl
    have c3 := hbx.cell 3 _ rfl
    have c4 := hbx.cell 4 _ rfl
    have hql := hbx.lt
    have HL := Lib.hid hL
    clear hbx hL
    go_wp2_with (go_at_call 23; (with_reducible refine (lq_fail HL.out now id why allow).mono ?_); rintro e w2 ⟨v, rfl, hP⟩; have HP := Lib.hid hP; clear hP)
    go_ret2
    exact ⟨v, rfl, HP.out⟩
  · rw [if_neg (by decide), if_pos rfl]
    go_enter Try.func11, Try.ntmps11
    go_upto_region 1 with fail
    have hbx : Blk (w.alloc (Obj.cells #[.int .i64 1, .int .i64 now, .int .i64 id, .int .i64 why, .bool allow] 33)) w.heap.size [.int .i64 1, .int .i64 now, .int .i64 id, .int .i64 why, .bool allow] 33 := Blk.new w [.int .i64 1, .int .i64 now, .int .i64 id, .int .i64 why, .bool allow] 33
    have hL := H.out.only ((Only.refl (fun _ => False) w).alloc (Obj.cells #[.int .i64 1, .int .i64 now, .int .i64 id, .int .i64 why, .bool allow] 33))
    generalize w.alloc (Obj.cells #[.int .i64 1, .int .i64 now, .int .i64 id, .int .i64 why, .bool allow] 33) = w1 at hbx hL ⊢
    have c0 := hbx.cell 0 _ rfl
    have c1 := hbx.cell 1 _ rfl
    have c2 := hbx.cell 2 _ rfl
    have c3 := hbx.cell 3 _ rfl
    have c4 := hbx.cell 4 _ rfl
    have hql := hbx.lt
    have HL := Lib.hid hL
    clear hbx hL
    go_wp2_with (go_at_call 24; (with_reducible refine (lq_head HL.out now id why allow).mono ?_); rintro e w2 ⟨v, rfl, hP⟩; have HP := Lib.hid hP; clear hP)
    go_ret2
    exact ⟨v, rfl, HP.out⟩
  · rw [if_neg hk0, if_neg hk1]
    have f0 : (k == 0) = false := beq_eq_false_iff_ne.2 hk0
    have f1 : (k == 1) = false := beq_eq_false_iff_ne.2 hk1
    clear hk0 hk1
    go_enter Try.func11, Try.ntmps11
    go_upto_region 1 with fail
    have hbx : Blk (w.alloc (Obj.cells #[.int .i64 k, .int .i64 now, .int .i64 id, .int .i64 why, .bool allow] 33)) w.heap.size [.int .i64 k, .int .i64 now, .int .i64 id, .int .i64 why, .bool allow] 33 := Blk.new w [.int .i64 k, .int .i64 now, .int .i64 id, .int .i64 why, .bool allow] 33
    have hL := H.out.only ((Only.refl (fun _ => False) w).alloc (Obj.cells #[.int .i64 k, .int .i64 now, .int .i64 id, .int .i64 why, .bool allow] 33))
    generalize w.alloc (Obj.cells #[.int .i64 k, .int .i64 now, .int .i64 id, .int .i64 why, .bool allow] 33) = w1 at hbx hL ⊢
    have c0 := hbx.cell 0 _ rfl
    have c1 := hbx.cell 1 _ rfl
    have c2 := hbx.cell 2 _ rfl
    have c3 := hbx.cell 3 _ rfl
    have c4 := hbx.cell 4 _ rfl
    have hql := hbx.lt
    have HL := Lib.hid hL
    clear hbx hL
    go_wp2_with (go_at_call 22; (with_reducible refine (lq_time HL.out now allow).mono ?_); rintro e w2 ⟨v, rfl, hP⟩; have HP := Lib.hid hP; clear hP)
    go_ret2
    exact ⟨v, rfl, HP.out⟩
end
end Go.Proofs.Ytlcblfkmadjppaa
