/- A law's request and its reference, side by side. -/
import Derived.Test.YtlcblfkmadjppaaGBegin
namespace Go.Proofs.Ytlcblfkmadjppaa
open Go.RowKit
set_option linter.unusedVariables false
set_option linter.unusedSimpArgs false

section
variable {w0 w : World} {q : Nat} {r : Rq}
set_option maxRecDepth 100000 in
theorem rq_does {F : Nat → Prop} {lo : Nat} (h : RQ F w lo q r []) (hok : Okq r) (k now id why : Int) (allow : Bool) :
    Calls Try.prog 11 #[.pointer (some ⟨q, 0, none⟩), stepV k now id why allow] w fun e w' =>
      ∃ v, e = .returned (.tuple #[v, .int .i64 (stepI r k now id why allow).2.2]) ∧ Told F w w' lo q (stepI r k now id why allow).1 v (stepI r k now id why allow).2.1 := by
  unfold stepI
  have H := Lib.hid h
  have HOK := Lib.hid hok
  clear h hok
  rcases (show k = 0 ∨ k = 1 ∨ (k ≠ 0 ∧ k ≠ 1) by omega) with rfl | rfl | ⟨hk0, hk1⟩
  · rw [if_pos rfl]
    go_enter Try.func11, Try.ntmps11
    go_upto_region 1 with fail
    have hbx : Blk (w.alloc (Obj.cells #[.int .i64 0, .int .i64 now, .int .i64 id, .int .i64 why, .bool allow] 33)) w.heap.size [.int .i64 0, .int .i64 now, .int .i64 id, .int .i64 why, .bool allow] 33 := Blk.new w [.int .i64 0, .int .i64 now, .int .i64 id, .int .i64 why, .bool allow] 33
    have hO := ((Only.refl (fun _ => False) w).alloc (Obj.cells #[.int .i64 0, .int .i64 now, .int .i64 id, .int .i64 why, .bool allow] 33))
    have hL := H.out.only hO (fun _ _ h => h)
    generalize w.alloc (Obj.cells #[.int .i64 0, .int .i64 now, .int .i64 id, .int .i64 why, .bool allow] 33) = w1 at hbx hL hO ⊢
    have c0 := hbx.cell 0 _ rfl
    have c1 := hbx.cell 1 _ rfl
    have c2 := hbx.cell 2 _ rfl
    have c3 := hbx.cell 3 _ rfl
    have c4 := hbx.cell 4 _ rfl
    have hql := hbx.lt
    have HL := Lib.hid hL
    have HO := Lib.hid hO
    clear hbx hL hO
    go_wp2_with (go_at_call 23; (with_reducible refine (fail_any HL.out HOK.out now id why allow).mono ?_); rintro e w2 ⟨v, rfl, hP⟩; have HP := Lib.hid hP; clear hP)
    go_ret2
    exact ⟨v, rfl, Told.trans (Mv.of_only HO.out) HP.out⟩
  · rw [if_neg (by decide), if_pos rfl]
    go_enter Try.func11, Try.ntmps11
    go_upto_region 1 with fail
    have hbx : Blk (w.alloc (Obj.cells #[.int .i64 1, .int .i64 now, .int .i64 id, .int .i64 why, .bool allow] 33)) w.heap.size [.int .i64 1, .int .i64 now, .int .i64 id, .int .i64 why, .bool allow] 33 := Blk.new w [.int .i64 1, .int .i64 now, .int .i64 id, .int .i64 why, .bool allow] 33
    have hO := ((Only.refl (fun _ => False) w).alloc (Obj.cells #[.int .i64 1, .int .i64 now, .int .i64 id, .int .i64 why, .bool allow] 33))
    have hL := H.out.only hO (fun _ _ h => h)
    generalize w.alloc (Obj.cells #[.int .i64 1, .int .i64 now, .int .i64 id, .int .i64 why, .bool allow] 33) = w1 at hbx hL hO ⊢
    have c0 := hbx.cell 0 _ rfl
    have c1 := hbx.cell 1 _ rfl
    have c2 := hbx.cell 2 _ rfl
    have c3 := hbx.cell 3 _ rfl
    have c4 := hbx.cell 4 _ rfl
    have hql := hbx.lt
    have HL := Lib.hid hL
    have HO := Lib.hid hO
    clear hbx hL hO
    go_wp2_with (go_at_call 24; (with_reducible refine (head_any HL.out HOK.out now id why allow).mono ?_); rintro e w2 ⟨v, rfl, hP⟩; have HP := Lib.hid hP; clear hP)
    go_ret2
    exact ⟨v, rfl, Told.trans (Mv.of_only HO.out) HP.out⟩
  · rw [if_neg hk0, if_neg hk1]
    have f0 : (k == 0) = false := beq_eq_false_iff_ne.2 hk0
    have f1 : (k == 1) = false := beq_eq_false_iff_ne.2 hk1
    clear hk0 hk1
    go_enter Try.func11, Try.ntmps11
    go_upto_region 1 with fail
    have hbx : Blk (w.alloc (Obj.cells #[.int .i64 k, .int .i64 now, .int .i64 id, .int .i64 why, .bool allow] 33)) w.heap.size [.int .i64 k, .int .i64 now, .int .i64 id, .int .i64 why, .bool allow] 33 := Blk.new w [.int .i64 k, .int .i64 now, .int .i64 id, .int .i64 why, .bool allow] 33
    have hO := ((Only.refl (fun _ => False) w).alloc (Obj.cells #[.int .i64 k, .int .i64 now, .int .i64 id, .int .i64 why, .bool allow] 33))
    have hL := H.out.only hO (fun _ _ h => h)
    generalize w.alloc (Obj.cells #[.int .i64 k, .int .i64 now, .int .i64 id, .int .i64 why, .bool allow] 33) = w1 at hbx hL hO ⊢
    have c0 := hbx.cell 0 _ rfl
    have c1 := hbx.cell 1 _ rfl
    have c2 := hbx.cell 2 _ rfl
    have c3 := hbx.cell 3 _ rfl
    have c4 := hbx.cell 4 _ rfl
    have hql := hbx.lt
    have HL := Lib.hid hL
    have HO := Lib.hid hO
    clear hbx hL hO
    go_wp2_with (go_at_call 22; (with_reducible refine (time_any HL.out HOK.out now allow).mono ?_); rintro e w2 ⟨v, rfl, hP⟩; have HP := Lib.hid hP; clear hP)
    go_ret2
    exact ⟨v, rfl, Told.trans (Mv.of_only HO.out) HP.out⟩

/-- What the next one is. -/
def NextIs (r : Rq) (m : Nat) (b : Bool) : Prop := (r.over = true ∧ m = 0 ∧ b = false) ∨ (r.over = false ∧ b = true ∧ ∃ j, IsMin (nextL r) j ∧ m = (nextL r).getD j 0)
theorem nextIs_ex (r : Rq) : ∃ m b, NextIs r m b := by
  cases ho : r.over with
  | true => exact ⟨0, false, .inl ⟨ho, rfl, rfl⟩⟩
  | false =>
    obtain ⟨j, hj⟩ := isMin_ex (nextL r) (by unfold nextL; simp)
    exact ⟨_, _, .inr ⟨ho, rfl, j, hj, rfl⟩⟩
theorem next_is {F : Nat → Prop} {lo m : Nat} {b : Bool} (h : RQ F w lo q r []) (hok : Okq r) (hn : NextIs r m b) :
    Calls Try.prog 19 #[.pointer (some ⟨q, 0, none⟩)] w fun e w' => e = .returned (.tuple #[.int .i64 m, .bool b]) ∧ Only (fun _ => False) w w' := by
  rcases hn with ⟨ho, rfl, rfl⟩ | ⟨ho, rfl, j, hj, rfl⟩
  · exact (next_over h ho).mono fun e w' ⟨h1, h2⟩ => ⟨h1, by rw [h2]; exact Only.refl _ _⟩
  · exact next_any h hok ho hj
theorem gnext_over {lo p : Nat} {vi vb vo : Value} {o : List Ac} (h : GQ w lo p r vi vb o vo) (ho : r.over = true) : Calls Try.prog 20 #[.pointer (some ⟨p, 0, none⟩)] w fun e w' => e = .returned (.tuple #[.int .i64 0, .bool false]) ∧ w = w' := by
  have c13 : w.cell? ⟨p, 13, none⟩ = some (.bool true) := by rw [← ho]; exact Blk.cell (Gw.blk h) 13 _ rfl
  have hpl := Blk.lt (Gw.blk h)
  clear h ho
  go_enter Try.func20, Try.ntmps20
  go_wp2
  go_ret2
  exact ⟨rfl, rfl⟩
theorem gnext_is {lo p m : Nat} {b : Bool} {vi vb vo : Value} (h : GQ w lo p r vi vb [] vo) (hok : Okq r) (hn : NextIs r m b) :
    Calls Try.prog 20 #[.pointer (some ⟨p, 0, none⟩)] w fun e w' => e = .returned (.tuple #[.int .i64 m, .bool b]) ∧ Only (fun _ => False) w w' := by
  rcases hn with ⟨ho, rfl, rfl⟩ | ⟨ho, rfl, j, hj, rfl⟩
  · exact (gnext_over h ho).mono fun e w' ⟨h1, h2⟩ => ⟨h1, by rw [h2]; exact Only.refl _ _⟩
  · exact gnext_any h hok ho hj

/-- The law's request and the reference, apart; the law's own blocks A. -/
def DL (w0 w : World) (q p : Nat) (r r2 : Rq) (A : Nat → Prop) : Prop :=
  ∃ F vi vb vo, RQ F w w0.heap.size q r [] ∧ GQ w w0.heap.size p r2 vi vb [] vo ∧ (∀ k, F k → ¬ gfoot p vi vb vo k) ∧ Below w0.heap.size w0 w ∧ Okq r ∧ Okq r2 ∧ ∀ k, A k → k < w.heap.size ∧ ¬ F k ∧ ¬ gfoot p vi vb vo k
variable {p : Nat} {r2 : Rq} {A : Nat → Prop}
theorem DL.below (h : DL w0 w q p r r2 A) : Below w0.heap.size w0 w := by obtain ⟨F, vi, vb, vo, _, _, _, h, _⟩ := h; exact h
theorem DL.size (h : DL w0 w q p r r2 A) : w0.heap.size ≤ w.heap.size := h.below.size
theorem DL.only {w' : World} (h : DL w0 w q p r r2 A) (ho : Only (fun _ => False) w w') : DL w0 w' q p r r2 A := by
  obtain ⟨F, vi, vb, vo, h1, h2, h3, h4, h5, h6, h7⟩ := h
  exact ⟨F, vi, vb, vo, h1.only ho (fun _ _ h => h), Gw.only h2 ho (fun _ _ h => h), h3, below_only h4 ho h4.size (fun _ h => h.elim), h5, h6, fun k hk => ⟨Nat.lt_of_lt_of_le (h7 k hk).1 ho.size, (h7 k hk).2⟩⟩
theorem DL.sub {A' : Nat → Prop} (h : DL w0 w q p r r2 A) (hk : ∀ k, A' k → A k) : DL w0 w q p r r2 A' := by
  obtain ⟨F, vi, vb, vo, h1, h2, h3, h4, h5, h6, h7⟩ := h
  exact ⟨F, vi, vb, vo, h1, h2, h3, h4, h5, h6, fun k hk' => h7 k (hk k hk')⟩
theorem DL.new_ (h : DL w0 w q p r r2 A) (o : Obj) : DL w0 (w.alloc o) q p r r2 (fun k => A k ∨ k = w.heap.size) := by
  have h0 := h.only ((Only.refl _ w).alloc o)
  obtain ⟨F, vi, vb, vo, h1, h2, h3, h4, h5, h6, h7⟩ := h
  have ho : Only (fun _ => False) w (w.alloc o) := (Only.refl _ w).alloc _
  refine ⟨F, vi, vb, vo, h1.only ho (fun _ _ h => h), Gw.only h2 ho (fun _ _ h => h), h3, h0.below, h5, h6, fun k hk => ?_⟩
  rcases hk with hk | rfl
  · exact ⟨Nat.lt_of_lt_of_le (h7 k hk).1 ho.size, (h7 k hk).2⟩
  · exact ⟨by simp only [World.size_alloc]; omega, fun hf => by have := (h1.lt _ hf).2; omega, fun hf => by have := (Gw.lt h2 _ hf).2; omega⟩
theorem dl_does (h : DL w0 w q p r r2 A) (k now id why : Int) (allow : Bool) :
    Calls Try.prog 11 #[.pointer (some ⟨q, 0, none⟩), stepV k now id why allow] w fun e w' => ∃ v, e = .returned (.tuple #[v, .int .i64 (stepI r k now id why allow).2.2]) ∧
      DL w0 w' q p (stepI r k now id why allow).1 r2 (fun k => A k ∨ v.ownBlock = some k) ∧ w'.ownsRow w0.heap.size 37 3 v (stepI r k now id why allow).2.1.length (acCells (stepI r k now id why allow).2.1) ∧ Only (fun k => ¬ A k) w w' := by
  obtain ⟨F, vi, vb, vo, h1, h2, h3, h4, h5, h6, h7⟩ := h
  refine (rq_does h1 h5 k now id why allow).mono ?_
  rintro e w' ⟨v, rfl, F', t1, t2, t3, t4, t5⟩
  refine ⟨v, rfl, ⟨F', vi, vb, vo, t1, Gw.only h2 t2.only (fun k hk hf => h3 k hf hk), fun k hk hg => ?_, below_only h4 t2.only h4.size (fun k hk => (h1.lt k hk).1), okq_step h5 k now id why allow, h6, fun k hk => ?_⟩, t3, t2.only.mono (fun k _ hf ha => (h7 k ha).2.1 hf)⟩
  · rcases t2.new_ k hk with hf | hl
    · exact h3 k hf hg
    · have := (Gw.lt h2 k hg).2; omega
  · rcases hk with hk | hk
    · refine ⟨Nat.lt_of_lt_of_le (h7 k hk).1 t2.only.size, fun hf => ?_, (h7 k hk).2.2⟩
      rcases t2.new_ k hf with hf | hl
      · exact (h7 k hk).2.1 hf
      · have := (h7 k hk).1; omega
    · refine ⟨(ownsRow_lt t3 k hk).2, t4 k hk, fun hg => ?_⟩
      rcases t5 k hk with hf | hl
      · exact h3 k hf hg
      · have := (Gw.lt h2 k hg).2; omega
theorem dl_gany (h : DL w0 w q p r r2 A) {f : Nat} {args : Array Value} {r3 : Rq} {l : List Ac} {x : Int} (hok : Okq r3)
    (hc : ∀ vi vb vo, GQ w w0.heap.size p r2 vi vb [] vo → Calls Try.prog f args w fun e w' => ∃ v, e = .returned (.tuple #[v, .int .i64 x]) ∧ GTold (gfoot p vi vb vo) w w' w0.heap.size p r3 v l) :
    Calls Try.prog f args w fun e w' => ∃ v, e = .returned (.tuple #[v, .int .i64 x]) ∧
      DL w0 w' q p r r3 (fun k => A k ∨ v.ownBlock = some k) ∧ w'.ownsRow w0.heap.size 66 3 v l.length (acCells l) ∧ Only (fun k => ¬ A k) w w' := by
  obtain ⟨F, vi, vb, vo, h1, h2, h3, h4, h5, h6, h7⟩ := h
  refine (hc vi vb vo h2).mono ?_
  rintro e w' ⟨v, rfl, vi', vb', vo', t1, t2, t3, t4, t5⟩
  refine ⟨v, rfl, ⟨F, vi', vb', vo', h1.only t2.only (fun k hf hg => h3 k hf hg), t1, fun k hk hg => ?_, below_only h4 t2.only h4.size (fun k hk => (Gw.lt h2 k hk).1), h5, hok, fun k hk => ?_⟩, t3, t2.only.mono (fun k _ hf ha => (h7 k ha).2.2 hf)⟩
  · rcases t2.new_ k hg with hf | hl
    · exact h3 k hk hf
    · have := (h1.lt k hk).2; omega
  · rcases hk with hk | hk
    · refine ⟨Nat.lt_of_lt_of_le (h7 k hk).1 t2.only.size, (h7 k hk).2.1, fun hf => ?_⟩
      rcases t2.new_ k hf with hf | hl
      · exact (h7 k hk).2.2 hf
      · have := (h7 k hk).1; omega
    · refine ⟨(ownsRow_lt t3 k hk).2, fun hg => ?_, t4 k hk⟩
      rcases t5 k hk with hf | hl
      · exact h3 k hg hf
      · have := (h1.lt k hg).2; omega
theorem DL.ok (h : DL w0 w q p r r2 A) : Okq r ∧ Okq r2 := by obtain ⟨F, vi, vb, vo, _, _, _, _, h5, h6, _⟩ := h; exact ⟨h5, h6⟩
theorem dl_gfail (h : DL w0 w q p r r2 A) (now id why : Int) (allow : Bool) :
    Calls Try.prog 16 #[.pointer (some ⟨p, 0, none⟩), .int .i64 now, .int .i64 id, .int .i64 why, .bool allow] w fun e w' => ∃ v, e = .returned (.tuple #[v, .int .i64 (failI r2 now id why allow).2.2]) ∧
      DL w0 w' q p r (failI r2 now id why allow).1 (fun k => A k ∨ v.ownBlock = some k) ∧ w'.ownsRow w0.heap.size 66 3 v (failI r2 now id why allow).2.1.length (acCells (failI r2 now id why allow).2.1) ∧ Only (fun k => ¬ A k) w w' :=
  dl_gany h (okq_step h.ok.2 0 now id why allow) (fun vi vb vo hg => gfail_any hg h.ok.2 now id why allow)
theorem dl_ghead (h : DL w0 w q p r r2 A) (now id why : Int) (allow : Bool) :
    Calls Try.prog 17 #[.pointer (some ⟨p, 0, none⟩), .int .i64 now, .int .i64 id, .int .i64 why, .bool allow] w fun e w' => ∃ v, e = .returned (.tuple #[v, .int .i64 (headI r2 now id why allow).2.2]) ∧
      DL w0 w' q p r (headI r2 now id why allow).1 (fun k => A k ∨ v.ownBlock = some k) ∧ w'.ownsRow w0.heap.size 66 3 v (headI r2 now id why allow).2.1.length (acCells (headI r2 now id why allow).2.1) ∧ Only (fun k => ¬ A k) w w' :=
  dl_gany h (okq_step h.ok.2 1 now id why allow) (fun vi vb vo hg => ghead_any hg h.ok.2 now id why allow)
theorem dl_gtime (h : DL w0 w q p r r2 A) (now : Int) (allow : Bool) :
    Calls Try.prog 18 #[.pointer (some ⟨p, 0, none⟩), .int .i64 now, .bool allow] w fun e w' => ∃ v, e = .returned (.tuple #[v, .int .i64 (timeI r2 now allow).2.2]) ∧
      DL w0 w' q p r (timeI r2 now allow).1 (fun k => A k ∨ v.ownBlock = some k) ∧ w'.ownsRow w0.heap.size 66 3 v (timeI r2 now allow).2.1.length (acCells (timeI r2 now allow).2.1) ∧ Only (fun k => ¬ A k) w w' :=
  dl_gany h (okq_step h.ok.2 2 now 0 0 allow) (fun vi vb vo hg => gtime_any hg h.ok.2 now allow)
theorem dl_next (h : DL w0 w q p r r2 A) {m : Nat} {b : Bool} (hn : NextIs r m b) : Calls Try.prog 19 #[.pointer (some ⟨q, 0, none⟩)] w fun e w' => e = .returned (.tuple #[.int .i64 m, .bool b]) ∧ Only (fun _ => False) w w' := by
  obtain ⟨F, vi, vb, vo, h1, h2, h3, h4, h5, h6, h7⟩ := h
  exact next_is h1 h5 hn
theorem dl_gnext (h : DL w0 w q p r r2 A) {m : Nat} {b : Bool} (hn : NextIs r2 m b) : Calls Try.prog 20 #[.pointer (some ⟨p, 0, none⟩)] w fun e w' => e = .returned (.tuple #[.int .i64 m, .bool b]) ∧ Only (fun _ => False) w w' := by
  obtain ⟨F, vi, vb, vo, h1, h2, h3, h4, h5, h6, h7⟩ := h
  exact gnext_is h2 h6 hn
theorem dl_over (h : DL w0 w q p r r2 A) : Calls Try.prog 12 #[.pointer (some ⟨q, 0, none⟩)] w fun e w' => e = .returned (.bool r.over) ∧ w = w' := by
  obtain ⟨F, vi, vb, vo, h1, h2, h3, h4, h5, h6, h7⟩ := h
  exact over_any h1
theorem dl_running (h : DL w0 w q p r r2 A) : Calls Try.prog 13 #[.pointer (some ⟨q, 0, none⟩)] w fun e w' => ∃ v, e = .returned v ∧ IRow w' v (idsOf r.runs) ∧ Only (fun _ => False) w w' := by
  obtain ⟨F, vi, vb, vo, h1, h2, h3, h4, h5, h6, h7⟩ := h
  refine (running_any h1 h5.w).mono ?_
  rintro e w' ⟨v, rfl, hi, ho⟩
  exact ⟨v, rfl, iRow_of hi, ho⟩
/-- The reference's cells. -/
theorem DL.gcells (h : DL w0 w q p r r2 A) : p < w.heap.size ∧ w.cell? ⟨p, 13, none⟩ = some (.bool r2.over) ∧ ∃ v, w.cell? ⟨p, 11, none⟩ = some v ∧ IRow w v (idsOf r2.runs) := by
  obtain ⟨F, vi, vb, vo, h1, h2, h3, h4, h5, h6, h7⟩ := h
  exact ⟨Blk.lt (Gw.blk h2), Blk.cell (Gw.blk h2) 13 _ rfl, vi, Blk.cell (Gw.blk h2) 11 _ rfl, iRow_of (Gw.ids h2)⟩
theorem gq_lower {lo lo' p : Nat} {vi vb vo : Value} {o : List Ac} (h : GQ w lo p r vi vb o vo) (hl : lo' ≤ lo) : GQ w lo' p r vi vb o vo := by
  unfold GQ at h ⊢
  exact ⟨h.blk, ownsRow_lower h.ids hl, ownsRow_lower h.beg hl, ownsRow_lower h.out hl, Nat.le_trans hl h.low, h.ne⟩
/-- Both began. -/
theorem dl_begun {wa wb wc : World} {v v2 : Value} (hb : Below w0.heap.size w0 wa) (hB : Begun wa wb q r v) (hG : GTold (fun _ => False) wb wc wb.heap.size p r2 v2 [⟨1, 0, 0⟩]) (h1 : Okq r) (h2 : Okq r2) :
    DL w0 wc q p r r2 (fun _ => False) ∧ wc.ownsRow w0.heap.size 37 3 v 1 (acCells [⟨1, 0, 0⟩]) ∧ wc.ownsRow w0.heap.size 66 3 v2 1 (acCells [⟨1, 0, 0⟩]) := by
  obtain ⟨F, hF, _⟩ := hB.rq
  obtain ⟨vi, vb, vo, t1, t2, t3, t4, t5⟩ := hG
  have hs1 := hb.size
  have hs2 := hB.below.size
  have ho : Only (fun _ => False) wb wc := t2.only
  refine ⟨⟨F, vi, vb, vo, (rq_lower hF hs1).only ho (fun _ _ h => h), gq_lower t1 (by omega), fun k hk hg => ?_, below_only (hb.trans (hB.below.mono hs1)) ho (by omega) (fun _ h => h.elim), h1, h2, fun k hk => hk.elim⟩, owns_only (ownsRow_lower hB.row hs1) ho (fun _ _ h => h), ownsRow_lower t3 (by omega)⟩
  have a1 := (hF.lt k hk).2
  rcases t2.new_ k hg with h | h
  · exact h
  · omega
end
end Go.Proofs.Ytlcblfkmadjppaa
