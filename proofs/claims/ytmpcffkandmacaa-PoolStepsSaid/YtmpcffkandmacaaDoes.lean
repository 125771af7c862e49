/- does: one step. -/
import Derived.Test.YtmpcffkandmacaaArgs
import Derived.Test.YtmpcffkandmacaaLaws1
namespace Go.Proofs.Ytmpcffkandmacaa
open Go.RowKit
set_option linter.unusedVariables false
set_option linter.unusedSimpArgs false

section
variable {w0 w : World} {p : Nat} {P : Pp} {K : Kept} {R : List Rowd}
theorem Lq.addNil (h : Lq w0 w p P K R) : Lq w0 w p P K (acRow (.slice none 0 0) [] :: R) := by
  obtain ⟨X, vl, vw, h⟩ := h
  refine ⟨X, vl, vw, h.pw, h.below, h.k, fun x hx => ?_⟩
  rcases List.mem_cons.1 hx with rfl | hx
  · exact ⟨World.ownsRow_nil _ _ _ _, fun k hk => by cases hk⟩
  · exact h.r x hx
theorem Lq.addOne (h : Lq w0 w p P K R) (x : Ac) : Lq w0 (w.alloc (Obj.cells #[.int .i64 x.kind, .int .i64 x.conn, .int .i64 x.who] 27)) p P K (acRow (.slice (some ⟨w.heap.size, 0, none⟩) 1 1) [x] :: R) := by
  have hs := h.size
  have h2 : Lq w0 (w.alloc (Obj.cells #[.int .i64 x.kind, .int .i64 x.conn, .int .i64 x.who] 27)) p P K R := h.only0 ((Only.refl _ _).alloc _)
  obtain ⟨X, vl, vw, h2⟩ := h2
  have hr := row_one w x w0.heap.size hs
  refine ⟨X, vl, vw, h2.pw, h2.below, h2.k, fun y hy => ?_⟩
  rcases List.mem_cons.1 hy with rfl | hy
  · exact ⟨hr, h2.pw.row_ne hr (by decide) (by decide) (by decide) (by decide)⟩
  · exact h2.r y hy
theorem zero47 : ∀ w : World, (zeroValue 47).run Try.prog w = .ok (.agg #[.int .i64 0, .int .i64 0, .int .i64 0]) w := fun w => by kernel_rfl
abbrev stV (k n d : Int) : Value := .agg #[.int .i64 k, .int .i64 n, .int .i64 d]
theorem Lq.step_ (h : Lq w0 w p P K R) (k n d : Int) : Lq w0 (w.alloc (Obj.cells #[.int .i64 k, .int .i64 n, .int .i64 d] 47)) p P ((w.heap.size, [.int .i64 k, .int .i64 n, .int .i64 d], 47) :: K) R := h.new_ [.int .i64 k, .int .i64 n, .int .i64 d] 47
def DoesP (w0 w : World) (p : Nat) (K : Kept) (R : List Rowd) (D : Pp × List Ac × Bool) (e : Ending) : Prop := ∃ v, e = .returned (.tuple #[v, .bool D.2.2]) ∧ Lq w0 w p D.1 K (acRow v D.2.1 :: R)
theorem DoesP.of {D : Pp × List Ac × Bool} {P' : Pp} {l : List Ac} {b : Bool} {v : Value} (hd : D = (P', l, b)) (h : Lq w0 w p P' K (acRow v l :: R)) : DoesP w0 w p K R D (.returned (.tuple #[v, .bool b])) := by
  subst hd
  exact ⟨v, rfl, h⟩
set_option maxRecDepth 100000 in
set_option maxHeartbeats 3200000 in
theorem does_any (h : Lq w0 w p P K R) {k : Nat} (hk : Okp P k) (hk9 : k + 1 < 9223372036854775807) (kind n who now : Int) :
    Calls Try.prog 17 #[ptr p, stV kind n who, .int .i64 now] w fun e w' => DoesP w0 w' p K R (doesL P kind who now) e := by
  have z27 := zero27
  have hn := h.step_ kind n who
  have hk0 : k < 9223372036854775807 := by omega
  have HK := Lib.hid hk
  obtain ⟨D, hD⟩ : ∃ D, D = doesL P kind who now := ⟨_, rfl⟩
  rw [← hD]
  have HDE := Lib.hid hD
  clear h hk hD
  have hcase : kind = 0 ∨ kind = 1 ∨ kind = 2 ∨ kind = 3 ∨ kind = 4 ∨ kind = 5 ∨ (kind ≠ 0 ∧ kind ≠ 1 ∧ kind ≠ 2 ∧ kind ≠ 3 ∧ kind ≠ 4 ∧ kind ≠ 5) := by omega
  rcases hcase with rfl | rfl | rfl | rfl | rfl | rfl | ⟨n0, n1, n2, n3, n4, n5⟩
  · go_enter Try.func17, Try.ntmps17
    go_upto_region 1 with fail
    obtain ⟨q, hq⟩ : ∃ q, q = w.heap.size := ⟨_, rfl⟩
    rw [← hq] at hn ⊢
    clear hq
    generalize w.alloc (Obj.cells #[.int .i64 0, .int .i64 n, .int .i64 who] 47) = w1 at hn ⊢
    have hb := hn.kept (List.mem_cons_self ..)
    have c0 := hb.cell 0 _ rfl
    have c1 := hb.cell 1 _ rfl
    have c2 := hb.cell 2 _ rfl
    have hql := hb.lt
    have HN := Lib.hid (hn.weak (K' := K) (fun x hx => List.mem_cons_of_mem _ hx) (fun x hx => hx))
    have HD := Lib.hid (show D = ((ask P now who).1, if (ask P now who).2.2 = 0 then [(ask P now who).2.1] else [], false) by rw [HDE.out]; unfold doesL; rw [if_pos rfl])
    have hA := lq_ask HN.out HK.out hk0 now who
    obtain ⟨P1, a, er, hask⟩ : ∃ P1 a er, ask P now who = (P1, a, er) := ⟨_, _, _, rfl⟩
    rw [hask] at hA HD
    have HA := Lib.hid hA
    clear hn hb hA hask
    by_cases h0 : er = 0
    · subst h0
      go_upto_region 6 with (go_at_call 9; (refine HA.out.mono ?_); rintro e w2 ⟨rfl, hL⟩; have HL := Lib.hid hL; clear hL)
      have hL2 := HL.out.act a.kind a.conn a.who
      obtain ⟨q2, hq2⟩ : ∃ q2, q2 = w2.heap.size := ⟨_, rfl⟩
      rw [← hq2] at hL2 ⊢
      clear hq2 c0 c1 c2 hql
      generalize w2.alloc (Obj.cells #[.int .i64 a.kind, .int .i64 a.conn, .int .i64 a.who] 27) = w3 at hL2 ⊢
      have hb2 := hL2.kept (List.mem_cons_self ..)
      have k0 := hb2.cell 0 _ rfl
      have k1 := hb2.cell 1 _ rfl
      have k2 := hb2.cell 2 _ rfl
      have hql := hb2.lt
      have HL2 := Lib.hid ((hL2.weak (K' := K) (fun x hx => List.mem_cons_of_mem _ hx) (fun x hx => hx)).addOne a)
      clear hL2 hb2
      go_wp2
      go_ret2
      exact DoesP.of HD.out HL2.out
    · have f1 : (er == 0) = false := beq_eq_false_iff_ne.2 h0
      have f2 : (er != 0) = true := by rw [bne, f1]; rfl
      have HD2 := Lib.hid (show D = (P1, [], false) by rw [HD.out]; simp only [if_neg h0])
      clear h0
      go_wp2_with (go_at_call 9; (refine HA.out.mono ?_); rintro e w2 ⟨rfl, hL⟩; have HL := Lib.hid (hL.only0 ((Only.refl (fun _ => False) w2).alloc (Obj.cells #[.int .i64 a.kind, .int .i64 a.conn, .int .i64 a.who] 27))); clear hL)
      go_ret2
      exact DoesP.of HD2.out HL.out.addNil
  · go_enter Try.func17, Try.ntmps17
    go_upto_region 1 with fail
    obtain ⟨q, hq⟩ : ∃ q, q = w.heap.size := ⟨_, rfl⟩
    rw [← hq] at hn ⊢
    clear hq
    generalize w.alloc (Obj.cells #[.int .i64 1, .int .i64 n, .int .i64 who] 47) = w1 at hn ⊢
    have hb := hn.kept (List.mem_cons_self ..)
    have c0 := hb.cell 0 _ rfl
    have c1 := hb.cell 1 _ rfl
    have c2 := hb.cell 2 _ rfl
    have hql := hb.lt
    have HN := Lib.hid (hn.weak (K' := K) (fun x hx => List.mem_cons_of_mem _ hx) (fun x hx => hx))
    have HD := Lib.hid (show D = ((up P who).1, [], false) by rw [HDE.out]; rfl)
    clear hn hb
    go_wp2_with (go_at_call 10; (refine (lq_up HN.out who).mono ?_); rintro e w2 ⟨rfl, hL⟩; have HL := Lib.hid hL; clear hL)
    go_ret2
    exact DoesP.of HD.out HL.out.addNil
  · go_enter Try.func17, Try.ntmps17
    go_upto_region 1 with fail
    obtain ⟨q, hq⟩ : ∃ q, q = w.heap.size := ⟨_, rfl⟩
    rw [← hq] at hn ⊢
    clear hq
    generalize w.alloc (Obj.cells #[.int .i64 2, .int .i64 n, .int .i64 who] 47) = w1 at hn ⊢
    have hb := hn.kept (List.mem_cons_self ..)
    have c0 := hb.cell 0 _ rfl
    have c1 := hb.cell 1 _ rfl
    have c2 := hb.cell 2 _ rfl
    have hql := hb.lt
    have HN := Lib.hid (hn.weak (K' := K) (fun x hx => List.mem_cons_of_mem _ hx) (fun x hx => hx))
    have HD := Lib.hid (show D = ((gone P now who).1, (gone P now who).2.2.1, (gone P now who).2.2.2 == 0) by rw [HDE.out]; rfl)
    have HA := Lib.hid (lq_gone HN.out HK.out hk0 now who)
    generalize gone P now who = G at HD HA
    clear hn hb
    go_wp2_with (go_at_call 36; (refine HA.out.mono ?_); rintro e w2 ⟨v, rfl, hL⟩; have HL := Lib.hid hL; clear hL)
    go_ret2
    exact DoesP.of HD.out HL.out
  · go_enter Try.func17, Try.ntmps17
    go_upto_region 1 with fail
    obtain ⟨q, hq⟩ : ∃ q, q = w.heap.size := ⟨_, rfl⟩
    rw [← hq] at hn ⊢
    clear hq
    generalize w.alloc (Obj.cells #[.int .i64 3, .int .i64 n, .int .i64 who] 47) = w1 at hn ⊢
    have hb := hn.kept (List.mem_cons_self ..)
    have c0 := hb.cell 0 _ rfl
    have c1 := hb.cell 1 _ rfl
    have c2 := hb.cell 2 _ rfl
    have hql := hb.lt
    have HN := Lib.hid (hn.weak (K' := K) (fun x hx => List.mem_cons_of_mem _ hx) (fun x hx => hx))
    have HD := Lib.hid (show D = ((done P now who true).1, (done P now who true).2.1, (done P now who true).2.2 == 0) by rw [HDE.out]; rfl)
    have HA := Lib.hid (lq_done HN.out HK.out hk9 now who true)
    generalize done P now who true = G at HD HA
    clear hn hb
    go_wp2_with (go_at_call 11; (refine HA.out.mono ?_); rintro e w2 ⟨v, rfl, hL⟩; have HL := Lib.hid hL; clear hL)
    go_ret2
    exact DoesP.of HD.out HL.out
  · go_enter Try.func17, Try.ntmps17
    go_upto_region 1 with fail
    obtain ⟨q, hq⟩ : ∃ q, q = w.heap.size := ⟨_, rfl⟩
    rw [← hq] at hn ⊢
    clear hq
    generalize w.alloc (Obj.cells #[.int .i64 4, .int .i64 n, .int .i64 who] 47) = w1 at hn ⊢
    have hb := hn.kept (List.mem_cons_self ..)
    have c0 := hb.cell 0 _ rfl
    have c1 := hb.cell 1 _ rfl
    have c2 := hb.cell 2 _ rfl
    have hql := hb.lt
    have HN := Lib.hid (hn.weak (K' := K) (fun x hx => List.mem_cons_of_mem _ hx) (fun x hx => hx))
    have HD := Lib.hid (show D = ((done P now who false).1, (done P now who false).2.1, (done P now who false).2.2 == 0) by rw [HDE.out]; rfl)
    have HA := Lib.hid (lq_done HN.out HK.out hk9 now who false)
    generalize done P now who false = G at HD HA
    clear hn hb
    go_wp2_with (go_at_call 11; (refine HA.out.mono ?_); rintro e w2 ⟨v, rfl, hL⟩; have HL := Lib.hid hL; clear hL)
    go_ret2
    exact DoesP.of HD.out HL.out
  · go_enter Try.func17, Try.ntmps17
    go_upto_region 1 with fail
    obtain ⟨q, hq⟩ : ∃ q, q = w.heap.size := ⟨_, rfl⟩
    rw [← hq] at hn ⊢
    clear hq
    generalize w.alloc (Obj.cells #[.int .i64 5, .int .i64 n, .int .i64 who] 47) = w1 at hn ⊢
    have hb := hn.kept (List.mem_cons_self ..)
    have c0 := hb.cell 0 _ rfl
    have c1 := hb.cell 1 _ rfl
    have c2 := hb.cell 2 _ rfl
    have hql := hb.lt
    have HN := Lib.hid (hn.weak (K' := K) (fun x hx => List.mem_cons_of_mem _ hx) (fun x hx => hx))
    have HD := Lib.hid (show D = ((drop P now who).1, (drop P now who).2.1, false) by rw [HDE.out]; rfl)
    have HA := Lib.hid (lq_drop HN.out HK.out hk0 now who)
    generalize drop P now who = G at HD HA
    clear hn hb
    go_wp2_with (go_at_call 14; (refine HA.out.mono ?_); rintro e w2 ⟨v, rfl, hL⟩; have HL := Lib.hid hL; clear hL)
    go_ret2
    exact DoesP.of HD.out HL.out
  · have g0 : (kind == 0) = false := beq_eq_false_iff_ne.2 n0
    have g1 : (kind == 1) = false := beq_eq_false_iff_ne.2 n1
    have g2 : (kind == 2) = false := beq_eq_false_iff_ne.2 n2
    have g3 : (kind == 3) = false := beq_eq_false_iff_ne.2 n3
    have g4 : (kind == 4) = false := beq_eq_false_iff_ne.2 n4
    have g5 : (kind == 5) = false := beq_eq_false_iff_ne.2 n5
    have HD := Lib.hid (show D = ((expire P now).1, (expire P now).2.1, false) by rw [HDE.out]; unfold doesL; rw [if_neg n0, if_neg n1, if_neg n2, if_neg n3, if_neg n4, if_neg n5])
    clear n0 n1 n2 n3 n4 n5
    go_enter Try.func17, Try.ntmps17
    go_upto_region 1 with fail
    obtain ⟨q, hq⟩ : ∃ q, q = w.heap.size := ⟨_, rfl⟩
    rw [← hq] at hn ⊢
    clear hq
    generalize w.alloc (Obj.cells #[.int .i64 kind, .int .i64 n, .int .i64 who] 47) = w1 at hn ⊢
    have hb := hn.kept (List.mem_cons_self ..)
    have c0 := hb.cell 0 _ rfl
    have c1 := hb.cell 1 _ rfl
    have c2 := hb.cell 2 _ rfl
    have hql := hb.lt
    have HN := Lib.hid (hn.weak (K' := K) (fun x hx => List.mem_cons_of_mem _ hx) (fun x hx => hx))
    have HA := Lib.hid (lq_expire HN.out HK.out hk0 now)
    generalize expire P now = G at HD HA
    clear hn hb
    go_wp2_with (go_at_call 15; (refine HA.out.mono ?_); rintro e w2 ⟨v, rfl, hL⟩; have HL := Lib.hid hL; clear hL)
    go_ret2
    exact DoesP.of HD.out HL.out
end
end Go.Proofs.Ytmpcffkandmacaa
