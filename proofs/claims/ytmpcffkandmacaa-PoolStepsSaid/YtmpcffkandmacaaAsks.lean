/- asks: a step of both. -/
import Derived.Test.YtmpcffkandmacaaBoth
namespace Go.Proofs.Ytmpcffkandmacaa
open Go.RowKit
set_option linter.unusedVariables false
set_option linter.unusedSimpArgs false

section
variable {w0 w : World} {p g : Nat} {P : Pp} {K : Kept} {R : List Rowd} {k : Nat}
/-- Both have done the step. -/
def AskP (w0 w : World) (p g : Nat) (P1 : Pp) (e : Ending) : Prop := e = .returned (.bool true) ∧ D2 w0 w p g P1 P1 [] []
theorem AskP.of {P1 : Pp} {K : Kept} {R : List Rowd} {w' : World} (h : D2 w0 w p g P1 P1 K R) (ho : Only (fun _ => False) w w') : AskP w0 w' p g P1 (.returned (.bool true)) :=
  ⟨rfl, (h.weak (K' := []) (R' := []) (fun x hx => by cases hx) (fun x hx => by cases hx)).only0 ho⟩
set_option maxRecDepth 100000 in
theorem asks_up (h : D2 w0 w p g P P [] []) (now who : Int) :
    Calls Try.prog 19 #[ptr p, ptr g, stV 1 now who] w fun e w' => AskP w0 w' p g (up P who).1 e := by
  have hn := h.step_ 1 now who 47
  clear h
  obtain ⟨G, hG⟩ : ∃ G, G = up P who := ⟨_, rfl⟩
  rw [← hG]
  obtain ⟨P1, x, er⟩ := G
  have HGE := Lib.hid hG
  clear hG
  simp only
  go_enter Try.func19, Try.ntmps19
  go_upto_region 1 with fail
  obtain ⟨q, hq⟩ : ∃ q, q = w.heap.size := ⟨_, rfl⟩
  rw [← hq] at hn ⊢
  clear hq
  generalize w.alloc (Obj.cells #[.int .i64 1, .int .i64 now, .int .i64 who] 47) = w1 at hn ⊢
  have hb := hn.kept (List.mem_cons_self ..)
  have c0 := hb.cell 0 _ rfl
  have c1 := hb.cell 1 _ rfl
  have c2 := hb.cell 2 _ rfl
  have hql := hb.lt
  have HN := Lib.hid hn
  clear hn hb
  have hA := d_up HN.out who
  rw [← HGE.out] at hA
  simp only at hA
  have HA := Lib.hid hA
  clear hA
  go_wp2_with (first
    | (go_at_call 10; (refine HA.out.mono ?_); rintro e w2 ⟨rfl, hL⟩; have hb2 := hL.kept (List.mem_cons_self ..); have c0 := hb2.cell 0 _ rfl; have c1 := hb2.cell 1 _ rfl; have c2 := hb2.cell 2 _ rfl; have hql := hb2.lt; have HL := Lib.hid hL; clear hL hb2)
    | (go_at_call 39; (refine (e_up HL.out who).mono ?_); rw [← HGE.out]; rintro e w3 ⟨rfl, hL3⟩; have HL3 := Lib.hid hL3; clear hL3))
  go_ret
  exact AskP.of HL3.out (Only.refl _ _)
set_option maxRecDepth 100000 in
set_option maxHeartbeats 1600000 in
theorem asks_gone (h : D2 w0 w p g P P [] []) (hk : Okp P k) (hk9 : k + 1 < 9223372036854775807) (now who : Int) :
    Calls Try.prog 19 #[ptr p, ptr g, stV 2 now who] w fun e w' => AskP w0 w' p g (gone P now who).1 e := by
  have hk0 : k < 9223372036854775807 := by omega
  have HK := Lib.hid hk
  have hn := h.step_ 2 now who 47
  clear h hk
  obtain ⟨G, hG⟩ : ∃ G, G = gone P now who := ⟨_, rfl⟩
  rw [← hG]
  obtain ⟨P1, x, l, er⟩ := G
  have HGE := Lib.hid hG
  clear hG
  simp only
  go_enter Try.func19, Try.ntmps19
  go_upto_region 1 with fail
  obtain ⟨q, hq⟩ : ∃ q, q = w.heap.size := ⟨_, rfl⟩
  rw [← hq] at hn ⊢
  clear hq
  generalize w.alloc (Obj.cells #[.int .i64 2, .int .i64 now, .int .i64 who] 47) = w1 at hn ⊢
  have hb := hn.kept (List.mem_cons_self ..)
  have c0 := hb.cell 0 _ rfl
  have c1 := hb.cell 1 _ rfl
  have c2 := hb.cell 2 _ rfl
  have hql := hb.lt
  have HN := Lib.hid hn
  clear hn hb
  have hA := d_gone HN.out HK.out hk0 now who
  rw [← HGE.out] at hA
  simp only at hA
  have HA := Lib.hid hA
  clear hA
  go_wp2_with (first
    | (go_at_call 36; (refine HA.out.mono ?_); rintro e w2 ⟨v, rfl, hL⟩; have hb2 := hL.kept (List.mem_cons_self ..); have c0 := hb2.cell 0 _ rfl; have c1 := hb2.cell 1 _ rfl; have c2 := hb2.cell 2 _ rfl; have hql := hb2.lt; have HL := Lib.hid hL; clear hL hb2)
    | (go_at_call 40; (refine (e_gone HL.out HK.out hk0 now who).mono ?_); rw [← HGE.out]; rintro e w3 ⟨v3, rfl, hL3⟩; have HAC := Lib.hid (acts_same (hL3.act27 (List.mem_cons_of_mem _ (List.mem_cons_self ..))) (hL3.act82 (List.mem_cons_self ..))); have HL3 := Lib.hid hL3; clear hL3)
    | (go_at_call 38; (refine HAC.out.mono ?_); rintro e w4 ⟨rfl, hO⟩; have HO := Lib.hid hO; clear hO))
  go_ret
  exact AskP.of HL3.out HO.out
set_option maxRecDepth 100000 in
set_option maxHeartbeats 1600000 in
theorem asks_keep (h : D2 w0 w p g P P [] []) (hk : Okp P k) (hk9 : k + 1 < 9223372036854775807) (now who : Int) :
    Calls Try.prog 19 #[ptr p, ptr g, stV 3 now who] w fun e w' => AskP w0 w' p g (done P now who true).1 e := by
  have hk0 : k < 9223372036854775807 := by omega
  have HK := Lib.hid hk
  have hn := h.step_ 3 now who 47
  clear h hk
  obtain ⟨G, hG⟩ : ∃ G, G = done P now who true := ⟨_, rfl⟩
  rw [← hG]
  obtain ⟨P1, l, er⟩ := G
  have HGE := Lib.hid hG
  clear hG
  simp only
  go_enter Try.func19, Try.ntmps19
  go_upto_region 1 with fail
  obtain ⟨q, hq⟩ : ∃ q, q = w.heap.size := ⟨_, rfl⟩
  rw [← hq] at hn ⊢
  clear hq
  generalize w.alloc (Obj.cells #[.int .i64 3, .int .i64 now, .int .i64 who] 47) = w1 at hn ⊢
  have hb := hn.kept (List.mem_cons_self ..)
  have c0 := hb.cell 0 _ rfl
  have c1 := hb.cell 1 _ rfl
  have c2 := hb.cell 2 _ rfl
  have hql := hb.lt
  have HN := Lib.hid hn
  clear hn hb
  have hA := d_done HN.out HK.out hk9 now who true
  rw [← HGE.out] at hA
  simp only at hA
  have HA := Lib.hid hA
  clear hA
  go_wp2_with (first
    | (go_at_call 11; (refine HA.out.mono ?_); rintro e w2 ⟨v, rfl, hL⟩; have hb2 := hL.kept (List.mem_cons_self ..); have c0 := hb2.cell 0 _ rfl; have c1 := hb2.cell 1 _ rfl; have c2 := hb2.cell 2 _ rfl; have hql := hb2.lt; have HL := Lib.hid hL; clear hL hb2)
    | (go_at_call 41; (refine (e_done HL.out HK.out hk9 now who true).mono ?_); rw [← HGE.out]; rintro e w3 ⟨v3, rfl, hL3⟩; have HAC := Lib.hid (acts_same (hL3.act27 (List.mem_cons_of_mem _ (List.mem_cons_self ..))) (hL3.act82 (List.mem_cons_self ..))); have HL3 := Lib.hid hL3; clear hL3)
    | (go_at_call 38; (refine HAC.out.mono ?_); rintro e w4 ⟨rfl, hO⟩; have HO := Lib.hid hO; clear hO))
  go_ret
  exact AskP.of HL3.out HO.out
set_option maxRecDepth 100000 in
set_option maxHeartbeats 1600000 in
theorem asks_cut (h : D2 w0 w p g P P [] []) (hk : Okp P k) (hk9 : k + 1 < 9223372036854775807) (now who : Int) :
    Calls Try.prog 19 #[ptr p, ptr g, stV 4 now who] w fun e w' => AskP w0 w' p g (done P now who false).1 e := by
  have hk0 : k < 9223372036854775807 := by omega
  have HK := Lib.hid hk
  have hn := h.step_ 4 now who 47
  clear h hk
  obtain ⟨G, hG⟩ : ∃ G, G = done P now who false := ⟨_, rfl⟩
  rw [← hG]
  obtain ⟨P1, l, er⟩ := G
  have HGE := Lib.hid hG
  clear hG
  simp only
  go_enter Try.func19, Try.ntmps19
  go_upto_region 1 with fail
  obtain ⟨q, hq⟩ : ∃ q, q = w.heap.size := ⟨_, rfl⟩
  rw [← hq] at hn ⊢
  clear hq
  generalize w.alloc (Obj.cells #[.int .i64 4, .int .i64 now, .int .i64 who] 47) = w1 at hn ⊢
  have hb := hn.kept (List.mem_cons_self ..)
  have c0 := hb.cell 0 _ rfl
  have c1 := hb.cell 1 _ rfl
  have c2 := hb.cell 2 _ rfl
  have hql := hb.lt
  have HN := Lib.hid hn
  clear hn hb
  have hA := d_done HN.out HK.out hk9 now who false
  rw [← HGE.out] at hA
  simp only at hA
  have HA := Lib.hid hA
  clear hA
  go_wp2_with (first
    | (go_at_call 11; (refine HA.out.mono ?_); rintro e w2 ⟨v, rfl, hL⟩; have hb2 := hL.kept (List.mem_cons_self ..); have c0 := hb2.cell 0 _ rfl; have c1 := hb2.cell 1 _ rfl; have c2 := hb2.cell 2 _ rfl; have hql := hb2.lt; have HL := Lib.hid hL; clear hL hb2)
    | (go_at_call 41; (refine (e_done HL.out HK.out hk9 now who false).mono ?_); rw [← HGE.out]; rintro e w3 ⟨v3, rfl, hL3⟩; have HAC := Lib.hid (acts_same (hL3.act27 (List.mem_cons_of_mem _ (List.mem_cons_self ..))) (hL3.act82 (List.mem_cons_self ..))); have HL3 := Lib.hid hL3; clear hL3)
    | (go_at_call 38; (refine HAC.out.mono ?_); rintro e w4 ⟨rfl, hO⟩; have HO := Lib.hid hO; clear hO))
  go_ret
  exact AskP.of HL3.out HO.out
set_option maxRecDepth 100000 in
set_option maxHeartbeats 1600000 in
theorem asks_drop (h : D2 w0 w p g P P [] []) (hk : Okp P k) (hk9 : k + 1 < 9223372036854775807) (now who : Int) :
    Calls Try.prog 19 #[ptr p, ptr g, stV 5 now who] w fun e w' => AskP w0 w' p g (drop P now who).1 e := by
  have hk0 : k < 9223372036854775807 := by omega
  have HK := Lib.hid hk
  have hn := h.step_ 5 now who 47
  clear h hk
  obtain ⟨G, hG⟩ : ∃ G, G = drop P now who := ⟨_, rfl⟩
  rw [← hG]
  obtain ⟨P1, l, er⟩ := G
  have HGE := Lib.hid hG
  clear hG
  simp only
  go_enter Try.func19, Try.ntmps19
  go_upto_region 1 with fail
  obtain ⟨q, hq⟩ : ∃ q, q = w.heap.size := ⟨_, rfl⟩
  rw [← hq] at hn ⊢
  clear hq
  generalize w.alloc (Obj.cells #[.int .i64 5, .int .i64 now, .int .i64 who] 47) = w1 at hn ⊢
  have hb := hn.kept (List.mem_cons_self ..)
  have c0 := hb.cell 0 _ rfl
  have c1 := hb.cell 1 _ rfl
  have c2 := hb.cell 2 _ rfl
  have hql := hb.lt
  have HN := Lib.hid hn
  clear hn hb
  have hA := d_drop HN.out HK.out hk0 now who
  rw [← HGE.out] at hA
  simp only at hA
  have HA := Lib.hid hA
  clear hA
  go_wp2_with (first
    | (go_at_call 14; (refine HA.out.mono ?_); rintro e w2 ⟨v, rfl, hL⟩; have hb2 := hL.kept (List.mem_cons_self ..); have c0 := hb2.cell 0 _ rfl; have c1 := hb2.cell 1 _ rfl; have c2 := hb2.cell 2 _ rfl; have hql := hb2.lt; have HL := Lib.hid hL; clear hL hb2)
    | (go_at_call 42; (refine (e_drop HL.out HK.out hk0 now who).mono ?_); rw [← HGE.out]; rintro e w3 ⟨v3, rfl, hL3⟩; have HAC := Lib.hid (acts_same (hL3.act27 (List.mem_cons_of_mem _ (List.mem_cons_self ..))) (hL3.act82 (List.mem_cons_self ..))); have HL3 := Lib.hid hL3; clear hL3)
    | (go_at_call 38; (refine HAC.out.mono ?_); rintro e w4 ⟨rfl, hO⟩; have HO := Lib.hid hO; clear hO))
  go_ret
  exact AskP.of HL3.out HO.out
set_option maxRecDepth 100000 in
set_option maxHeartbeats 1600000 in
theorem asks_expire (h : D2 w0 w p g P P [] []) (hk : Okp P k) (hk9 : k + 1 < 9223372036854775807) (kind now who : Int) (n0 : kind ≠ 0) (n1 : kind ≠ 1) (n2 : kind ≠ 2) (n3 : kind ≠ 3) (n4 : kind ≠ 4) (n5 : kind ≠ 5) :
    Calls Try.prog 19 #[ptr p, ptr g, stV kind now who] w fun e w' => AskP w0 w' p g (expire P now).1 e := by
  have hk0 : k < 9223372036854775807 := by omega
  have HK := Lib.hid hk
  have hn := h.step_ kind now who 47
  have b0 : (kind == 0) = false := beq_eq_false_iff_ne.2 n0
  have b1 : (kind == 1) = false := beq_eq_false_iff_ne.2 n1
  have b2 : (kind == 2) = false := beq_eq_false_iff_ne.2 n2
  have b3 : (kind == 3) = false := beq_eq_false_iff_ne.2 n3
  have b4 : (kind == 4) = false := beq_eq_false_iff_ne.2 n4
  have b5 : (kind == 5) = false := beq_eq_false_iff_ne.2 n5
  clear h hk n0 n1 n2 n3 n4 n5
  obtain ⟨G, hG⟩ : ∃ G, G = expire P now := ⟨_, rfl⟩
  rw [← hG]
  obtain ⟨P1, l, er⟩ := G
  have HGE := Lib.hid hG
  clear hG
  simp only
  go_enter Try.func19, Try.ntmps19
  go_upto_region 1 with fail
  obtain ⟨q, hq⟩ : ∃ q, q = w.heap.size := ⟨_, rfl⟩
  rw [← hq] at hn ⊢
  clear hq
  generalize w.alloc (Obj.cells #[.int .i64 kind, .int .i64 now, .int .i64 who] 47) = w1 at hn ⊢
  have hb := hn.kept (List.mem_cons_self ..)
  have c0 := hb.cell 0 _ rfl
  have c1 := hb.cell 1 _ rfl
  have c2 := hb.cell 2 _ rfl
  have hql := hb.lt
  have HN := Lib.hid hn
  clear hn hb
  have hA := d_expire HN.out HK.out hk0 now
  rw [← HGE.out] at hA
  simp only at hA
  have HA := Lib.hid hA
  clear hA
  go_wp2_with (first
    | (go_at_call 15; (refine HA.out.mono ?_); rintro e w2 ⟨v, rfl, hL⟩; have hb2 := hL.kept (List.mem_cons_self ..); have c0 := hb2.cell 0 _ rfl; have c1 := hb2.cell 1 _ rfl; have c2 := hb2.cell 2 _ rfl; have hql := hb2.lt; have HL := Lib.hid hL; clear hL hb2)
    | (go_at_call 43; (refine (e_expire HL.out HK.out hk0 now).mono ?_); rw [← HGE.out]; rintro e w3 ⟨v3, rfl, hL3⟩; have HAC := Lib.hid (acts_same (hL3.act27 (List.mem_cons_of_mem _ (List.mem_cons_self ..))) (hL3.act82 (List.mem_cons_self ..))); have HL3 := Lib.hid hL3; clear hL3)
    | (go_at_call 38; (refine HAC.out.mono ?_); rintro e w4 ⟨rfl, hO⟩; have HO := Lib.hid hO; clear hO))
  go_ret
  exact AskP.of HL3.out HO.out
set_option maxRecDepth 100000 in
set_option maxHeartbeats 1600000 in
theorem asks_ask (h : D2 w0 w p g P P [] []) (hk : Okp P k) (hk9 : k + 1 < 9223372036854775807) (now who : Int) :
    Calls Try.prog 19 #[ptr p, ptr g, stV 0 now who] w fun e w' => AskP w0 w' p g (ask P now who).1 e := by
  have hk0 : k < 9223372036854775807 := by omega
  have z27 := zero27
  have z82 := zero82
  have HK := Lib.hid hk
  have hn := h.step_ 0 now who 47
  clear h hk
  obtain ⟨G, hG⟩ : ∃ G, G = ask P now who := ⟨_, rfl⟩
  rw [← hG]
  obtain ⟨P1, ⟨ak, ac, aw⟩, er⟩ := G
  have HGE := Lib.hid hG
  clear hG
  simp only
  go_enter Try.func19, Try.ntmps19
  go_upto_region 1 with fail
  obtain ⟨q, hq⟩ : ∃ q, q = w.heap.size := ⟨_, rfl⟩
  rw [← hq] at hn ⊢
  clear hq
  generalize w.alloc (Obj.cells #[.int .i64 0, .int .i64 now, .int .i64 who] 47) = w1 at hn ⊢
  have hb := hn.kept (List.mem_cons_self ..)
  have c0 := hb.cell 0 _ rfl
  have c1 := hb.cell 1 _ rfl
  have c2 := hb.cell 2 _ rfl
  have hql := hb.lt
  have HN := Lib.hid hn
  clear hn hb
  have hA := d_ask HN.out HK.out hk0 now who
  rw [← HGE.out] at hA
  simp only at hA
  have HA := Lib.hid hA
  clear hA
  go_upto_region 4 with (go_at_call 9; (refine HA.out.mono ?_); rintro e w2 ⟨rfl, hL⟩; have HL := Lib.hid hL; clear hL)
  have hL3 := HL.out.step_ ak ac aw 27
  obtain ⟨q2, hq2⟩ : ∃ q2, q2 = w2.heap.size := ⟨_, rfl⟩
  rw [← hq2] at hL3 ⊢
  clear hq2 c0 c1 c2 hql
  generalize w2.alloc (Obj.cells #[.int .i64 ak, .int .i64 ac, .int .i64 aw] 27) = w3 at hL3 ⊢
  have hb3 := hL3.kept (List.mem_cons_of_mem _ (List.mem_cons_self ..))
  have c0 := hb3.cell 0 _ rfl
  have c1 := hb3.cell 1 _ rfl
  have c2 := hb3.cell 2 _ rfl
  have hql := hb3.lt
  have hE := e_ask hL3 HK.out hk0 now who
  rw [← HGE.out] at hE
  simp only at hE
  have HE := Lib.hid hE
  clear hb3 hL3 hE
  go_upto_region 5 with (go_at_call 37; (with_reducible refine HE.out.mono ?_); rintro e w4 ⟨rfl, hL⟩; have HL4 := Lib.hid hL; clear hL)
  have hL5 := HL4.out.step_ ak ac aw 82
  obtain ⟨q3, hq3⟩ : ∃ q3, q3 = w4.heap.size := ⟨_, rfl⟩
  rw [← hq3] at hL5 ⊢
  clear hq3 c0 c1 c2 hql
  generalize w4.alloc (Obj.cells #[.int .i64 ak, .int .i64 ac, .int .i64 aw] 82) = w5 at hL5 ⊢
  have hb5 := hL5.kept (List.mem_cons_self ..)
  have hb6 := hL5.kept (List.mem_cons_of_mem _ (List.mem_cons_self ..))
  have m0 := hb5.cell 0 _ rfl
  have m1 := hb5.cell 1 _ rfl
  have m2 := hb5.cell 2 _ rfl
  have n0 := hb6.cell 0 _ rfl
  have n1 := hb6.cell 1 _ rfl
  have n2 := hb6.cell 2 _ rfl
  have hl5 := hb5.lt
  have hl6 := hb6.lt
  have hoA : Only (fun _ => False) w5 (w5.alloc (Obj.cells #[.int .i64 ak, .int .i64 ac, .int .i64 aw] 27)) := (Only.refl _ _).alloc _
  have hoB : Only (fun _ => False) (w5.alloc (Obj.cells #[.int .i64 ak, .int .i64 ac, .int .i64 aw] 27)) ((w5.alloc (Obj.cells #[.int .i64 ak, .int .i64 ac, .int .i64 aw] 27)).alloc (Obj.cells #[.int .i64 ak, .int .i64 ac, .int .i64 aw] 82)) := (Only.refl _ _).alloc _
  have h27 := (actRow_of (l := [⟨ak, ac, aw⟩]) (row_one w5 ⟨ak, ac, aw⟩ 0 (Nat.zero_le _))).only hoB
  have h82 := actRow_of (l := [⟨ak, ac, aw⟩]) (row_one82 (w5.alloc (Obj.cells #[.int .i64 ak, .int .i64 ac, .int .i64 aw] 27)) ⟨ak, ac, aw⟩ 0 (Nat.zero_le _))
  rw [World.size_alloc] at h82
  have HAC := Lib.hid (acts_same h27 h82)
  have HL5 := Lib.hid (hL5.only0 (hoA.trans hoB (fun _ _ h => h)))
  clear hL5 hb5 hb6 hoA hoB h27 h82
  go_wp2_with (go_at_call 38; (with_reducible refine HAC.out.mono ?_); rintro e w6 ⟨rfl, hO⟩; have HO := Lib.hid hO; clear hO)
  go_ret
  exact AskP.of HL5.out HO.out
/-- Both do any step alike. -/
theorem asks_any (h : D2 w0 w p g P P [] []) (hk : Okp P k) (hk9 : k + 1 < 9223372036854775807) (kind now who : Int) :
    Calls Try.prog 19 #[ptr p, ptr g, stV kind now who] w fun e w' => AskP w0 w' p g (doesL P kind who now).1 e := by
  unfold doesL
  by_cases h0 : kind = 0
  · rw [if_pos h0]; subst h0; exact asks_ask h hk hk9 now who
  rw [if_neg h0]
  by_cases h1 : kind = 1
  · rw [if_pos h1]; subst h1; exact asks_up h now who
  rw [if_neg h1]
  by_cases h2 : kind = 2
  · rw [if_pos h2]; subst h2; exact asks_gone h hk hk9 now who
  rw [if_neg h2]
  by_cases h3 : kind = 3
  · rw [if_pos h3]; subst h3; exact asks_keep h hk hk9 now who
  rw [if_neg h3]
  by_cases h4 : kind = 4
  · rw [if_pos h4]; subst h4; exact asks_cut h hk hk9 now who
  rw [if_neg h4]
  by_cases h5 : kind = 5
  · rw [if_pos h5]; subst h5; exact asks_drop h hk hk9 now who
  rw [if_neg h5]
  exact asks_expire h hk hk9 kind now who h0 h1 h2 h3 h4 h5
end
end Go.Proofs.Ytmpcffkandmacaa
