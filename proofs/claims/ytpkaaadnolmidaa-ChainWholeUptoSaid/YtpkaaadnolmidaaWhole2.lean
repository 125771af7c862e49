/- ChainWhole: the walk. -/
import Derived.Test.YtpkaaadnolmidaaWhole1
namespace Go.Proofs.Ytpkaaadnolmidaa
open Go.RowKit
set_option linter.unusedVariables false
set_option linter.unusedSimpArgs false

theorem whole_src {w0 w : World} {p base bound high low : Nat} {vP vT : Value} {g : Option Nat} {r : List Int} {fr : Nat} {L P T : List Int} {st : Bool} {ab : Option Addr} {cb : Nat} {B : List Int} (h : WI w0 w p base bound high low vP vT g r fr L P T st)
    (hs : Src w0 ab cb B) : Src w ab cb B := hs.far h.own (fun _ _ _ _ hl h => by omega)

/-- A round's Put. -/
theorem whole_put {w0 w : World} {p base bound high low : Nat} {vP vT : Value} {g : Option Nat} {r : List Int} {fr : Nat} {L P T : List Int} {st : Bool} {ab : Option Addr} {cb : Nat} {B : List Int} {n m : Nat} (h : WI w0 w p base bound high low vP vT g r fr L P T st)
    (hs : Src w0 ab cb B) (hn : n = B.length ∧ m = min B.length (bound - L.length)) :
    Calls Try.prog 11 #[.pointer (some ⟨p, 0, none⟩), .slice ab n cb] w fun e w' => e = .returned (.int .i64 m) ∧ PutPost w w' p g bound high low (L ++ B.take m) (putStop high m (L ++ B.take m) st) := by
  obtain ⟨rfl, hm⟩ := hn
  refine put_any h.ch ab cb B (whole_src h hs) (fun h0 gb off e hf => ?_) m hm
  obtain ⟨gb', off', e', hl, _⟩ := hs.at_ h0
  rw [e] at e'
  cases e'
  have := h.low_ gb hf
  omega

theorem whole_new {w wx wa : World} {bound high low : Nat} (hx : Blk wx w.heap.size [.int .i64 bound, .int .i64 high, .int .i64 low] 23) (hox : Only (fun _ => False) w wx) (hxs : wx.heap.size = w.heap.size + 1) (hNa : NewPost wx wa bound high low) :
    WI w wa wx.heap.size wa.heap.size bound high low (.slice none 0 0) (.slice none 0 0) none [] 0 [] [] [] false := by
  have s1 := hNa.size
  refine ⟨hNa.ch, World.ownsRow_nil _ _ _ _, World.ownsRow_nil _ _ _ _, rfl, ?_, hx.below hNa.below (by omega), (fun _ h => by cases h), (fun _ h => by cases h), (fun _ h => by cases h), fun k hk => ?_, by omega, Nat.le_refl _⟩
  · exact (hox.mono (fun _ _ h => h.elim)).trans (Below.only hNa.below (fun k => w.heap.size ≤ k)) (fun i _ h => h)
  · rcases hk with hk | hk
    · omega
    · cases hk

theorem whole_rows {w0 w wq : World} {p base bound high low : Nat} {vP vT : Value} {g : Option Nat} {r : List Int} {fr : Nat} {L P T : List Int} {st : Bool} {ab : Option Addr} {cb : Nat} {B : List Int} (h : WI w0 w p base bound high low vP vT g r fr L P T st)
    (ho : Only (foot p g) w wq) (hs : Src w0 ab cb B) : Own wq base vP P ∧ base ≤ wq.heap.size ∧ Src wq ab cb B :=
  ⟨owns_only h.put ho (fun k hk hS => h.farP k hk hS), Nat.le_trans h.base_.2 ho.size, (whole_src h hs).far ho (fun h0 gb off e _ hf => by
    obtain ⟨gb', off', e', hl, _⟩ := hs.at_ h0
    rw [e] at e'
    cases e'
    have := h.low_ gb hf
    omega)⟩

theorem bytes_app (A B : List Int) : bytes A ++ bytes B = bytes (A ++ B) := by
  unfold bytes
  rw [List.map_append]

theorem src_nil {w : World} {M : List Int} {a : Option Addr} (h : Src w a M.length M) : a = none → M.length = 0 := fun e => by
  rcases Nat.eq_zero_or_pos M.length with h0 | h0
  · exact h0
  · obtain ⟨_, _, e2, _⟩ := h.at_ h0
    rw [e] at e2
    cases e2

theorem conv_own {w : World} {lo : Nat} {v : Value} {M : List Int} (h : Own w lo v M) : (convert 33 9 v).run Try.prog w = .ok (.string (strOfNums M)) w := by
  obtain ⟨a, c, rfl, _, _, _, _⟩ := ownsRow_slice h
  exact conv_src (src_own h)

theorem whole_len0 {w : World} {p : Nat} {g : Option Nat} {r : List Int} {fr bound high low : Nat} {L : List Int} {st : Bool} (h : Ch w p g r fr bound high low L st) (hL : L = []) :
    Calls Try.prog 20 #[.pointer (some ⟨p, 0, none⟩)] w fun e w' => e = .returned (.int .i64 0) ∧ w = w' := by
  subst hL
  exact len_any h

def TakeW (w w' : World) (v : Value) (p : Nat) (g : Option Nat) (r : List Int) (bound high low : Nat) (L : List Int) (st : Bool) (n : Int) : Prop :=
  ∃ a3 q3 T3 fr3, v = .slice a3 q3 q3 ∧ (q3 = T3.length ∧ T3 = L.take n.toNat) ∧ Src w' a3 q3 T3 ∧ (a3 = none → q3 = 0) ∧ Ch w' p g r fr3 bound high low (L.drop n.toNat) (dropStop low (L.drop n.toNat) st) ∧ Only (fun k => k = p) w w'

theorem whole_take {w : World} {p : Nat} {g : Option Nat} {r : List Int} {fr bound high low : Nat} {L : List Int} {st : Bool} (h : Ch w p g r fr bound high low L st) (n : Int) :
    Calls Try.prog 13 #[.pointer (some ⟨p, 0, none⟩), .int .i64 n] w fun e w' => ∃ v, e = .returned v ∧ TakeW w w' v p g r bound high low L st n := by
  refine (take_any h n).mono ?_
  rintro e w' ⟨v, rfl, hv, fr3, hc3, ho3⟩
  have h1 := h.fit
  have h2 := h.max
  have h3 := h.most
  obtain ⟨a3, rfl, hs3⟩ := src_ownBytes hv (by rw [List.length_take]; omega)
  exact ⟨_, rfl, a3, _, _, fr3, rfl, ⟨rfl, rfl⟩, hs3, src_nil hs3, hc3, ho3⟩

theorem zero35 : ∀ w : World, (zeroValue 35).run Try.prog w = .ok (.agg #[.int .i64 0, .int .i64 0, .slice none 0 0]) w := fun w => by kernel_rfl

set_option maxRecDepth 100000 in
set_option maxHeartbeats 6400000 in
theorem whole_good (a : Option Addr) (len cap : Nat) (w : World) (hS : Steps w a len) (hlen : len ≤ 1048576) (bound high low : Nat) (hm : marksOk bound high low) :
    Calls Try.prog 4 #[.agg #[.int .i64 bound, .int .i64 high, .int .i64 low], .slice a len cap] w fun e w' => e = .returned (.bool true) ∧ Below w.heap.size w w' := by
  obtain ⟨i5, hi, hz0, hz1, hz2⟩ := info_parts Try.info5
  have hbd : bound ≤ 1048576 := by obtain ⟨⟨_, _⟩, _⟩ := hm; omega
  have HM := Lib.hid hm
  have HS := Lib.hid hS
  clear hm hS
  go_enter Try.func4, Try.ntmps4
  go_wp2_with fail
  have hx : Blk (w.alloc (Obj.cells #[.int .i64 bound, .int .i64 high, .int .i64 low] 23)) w.heap.size [.int .i64 bound, .int .i64 high, .int .i64 low] 23 := Blk.new w [.int .i64 bound, .int .i64 high, .int .i64 low] 23
  have hox : Only (fun _ => False) w (w.alloc (Obj.cells #[.int .i64 bound, .int .i64 high, .int .i64 low] 23)) := (Only.refl _ _).alloc _
  have hxs : (w.alloc (Obj.cells #[.int .i64 bound, .int .i64 high, .int .i64 low] 23)).heap.size = w.heap.size + 1 := by simp
  generalize w.alloc (Obj.cells #[.int .i64 bound, .int .i64 high, .int .i64 low] 23) = wx at hx hox hxs ⊢
  have HX := Lib.hid hx
  have HOX := Lib.hid hox
  have HXS := Lib.hid hxs
  clear hx hox hxs
  go_wp2_with (first
    | (go_at_call 8; (with_reducible refine (new_ok wx bound high low HM.out).mono ?_); rintro e wa ⟨rfl, hNa⟩; have HI0 := Lib.hid (whole_new HX.out HOX.out HXS.out hNa); clear hNa))
  obtain ⟨p, hp⟩ : ∃ p, p = wx.heap.size := ⟨_, rfl⟩
  obtain ⟨base, hbase⟩ : ∃ base, base = wa.heap.size := ⟨_, rfl⟩
  rw [← hp, ← hbase] at HI0
  rw [← hp]
  clear hp hbase HX HOX HXS
  go_loopw [37, 7, 8] (fun i vP vT wr => ∃ (j : Nat) (g : Option Nat) (r : List Int) (fr : Nat) (L P T : List Int) (st : Bool), j ≤ len ∧ i = .int .i64 j ∧ P.length ≤ j * 1048576 ∧ WI w wr p base bound high low vP vT g r fr L P T st) (fun i _ _ _ => len - (intOf i).toNat)
  case atStart => exact ⟨0, none, [], 0, [], [], [], false, Nat.zero_le _, rfl, Nat.zero_le _, HI0.out⟩
  case round =>
    obtain ⟨j, g, r, fr, L, P, T, st, hj, rfl, hPl, hI⟩ := hrel
    have HI := Lib.hid hI
    clear hI
    by_cases hlt : j < len
    · obtain ⟨b, off, rfl, hbl, hst⟩ := HS.out.at_ (by omega)
      obtain ⟨kd, n, ab, cb, B, hc0, hc1, hc2, hsB, hnB⟩ := hst j hlt
      have hblk := HI.out.own.block b hbl (by omega)
      obtain ⟨q, hq⟩ : ∃ q, q = B.length := ⟨_, rfl⟩
      obtain ⟨m, hm⟩ : ∃ m, m = min B.length (bound - L.length) := ⟨_, rfl⟩
      rw [← hq] at hc2
      have d0 := (World.cell?_of_block (a := ⟨b, off + j * 3, none⟩) hblk).trans hc0
      have d1 := (World.cell?_of_block (a := ⟨b, off + j * 3 + 1, none⟩) hblk).trans hc1
      have d2 := (World.cell?_of_block (a := ⟨b, off + j * 3 + 2, none⟩) hblk).trans hc2
      have HB := Lib.hid hsB
      have HNB := Lib.hid hnB
      have HQM := Lib.hid (⟨hq, hm⟩ : q = B.length ∧ m = min B.length (bound - L.length))
      have z35 := zero35
      clear hst hc0 hc1 hc2 hblk hsB hnB hq hm
      go_wp2_with fail
      have hbn : Blk (wr.alloc (Obj.cells #[.int .i64 kd, .int .i64 n, .slice ab q cb] 35)) wr.heap.size [.int .i64 kd, .int .i64 n, .slice ab q cb] 35 := Blk.new wr [.int .i64 kd, .int .i64 n, .slice ab q cb] 35
      have hon : Only (fun _ => False) wr (wr.alloc (Obj.cells #[.int .i64 kd, .int .i64 n, .slice ab q cb] 35)) := (Only.refl _ _).alloc _
      generalize wr.alloc (Obj.cells #[.int .i64 kd, .int .i64 n, .slice ab q cb] 35) = wn at hbn hon ⊢
      have HI1 := Lib.hid (HI.out.far hon (fun _ h => h.elim))
      have HBN := Lib.hid hbn
      have HF := Lib.hid HI.out.ch.lt
      clear hbn hon d0 d1 d2 z35
      go_wp2_with (first
        | (go_at_call 11; (with_reducible refine (whole_put HI1.out HB.out HQM.out).mono ?_); rintro e w1 ⟨rfl, hP⟩; obtain ⟨g1, r1, fr1, hc1, ho1, hg1⟩ := hP; have HC1 := Lib.hid hc1; have HO1 := Lib.hid ho1; have HG1 := Lib.hid hg1; clear hc1 ho1 hg1))
      obtain ⟨L1, hL1⟩ : ∃ L1, L1 = L ++ B.take m := ⟨_, rfl⟩
      have hc1 := HC1.out
      rw [← hL1] at hc1
      have hb1 := HBN.out.only HO1.out (fun h => by have := HF.out _ h; omega)
      have hx1 := HI1.out.box.only HO1.out (fun h => by have := HI1.out.low_ _ h; omega)
      have e0 := hb1.cell 0 _ rfl
      have e1 := hb1.cell 1 _ rfl
      have e2 := hb1.cell 2 _ rfl
      have x0 := hx1.cell 0 _ rfl
      have hLb : L1.length ≤ bound := by have := hc1.fit; have := hc1.max; omega
      have hmq : m ≤ q ∧ m ≤ 1048576 := by have := HQM.out; omega
      obtain ⟨hmq, hm2⟩ := hmq
      have hqc : q ≤ cb := by have := HQM.out; have := HB.out.le; omega
      have f1 : decide ((m : Int) < 0) = false := decide_eq_false (by omega)
      have f2 : decide ((q : Int) < (m : Int)) = false := decide_eq_false (by omega)
      have f3 : decide ((bound : Int) < (L1.length : Int)) = false := decide_eq_false (by omega)
      have hmap : ∀ a : Option Addr, a.map (fun x => x.add 0) = a := fun a => by cases a <;> simp [Addr.add]
      have HL1 := Lib.hid hL1
      have HC1L := Lib.hid hc1
      have HB1 := Lib.hid hb1
      have HX1 := Lib.hid hx1
      clear hL1 hc1 hb1 hx1
      go_quiet ((go_at_call 20; refine (len_any (HC1L.out.drawn (Drawn.of w1 _))).mono ?_; rintro e w' ⟨rfl, rfl⟩; exact ⟨rfl, _, rfl⟩))
      generalize hwq : w1.drewN nq = wq
      have hoq : Only (foot p g) wn wq := by rw [← hwq]; exact HO1.out.drewN nq
      have hdq : Only (fun _ => False) w1 wq := by rw [← hwq]; exact (Only.refl _ _).drewN nq
      have hcq := HC1.out.only hdq (fun _ _ => id)
      have hbq := HB1.out.only hdq id
      have d2 := hbq.cell 2 _ rfl
      obtain ⟨hpq, hbs, hsq⟩ := whole_rows HI1.out hoq HB.out
      have htl : (B.take m).length = m := by have := HQM.out; rw [List.length_take]; omega
      have HOQ := Lib.hid hoq
      have HCQ := Lib.hid hcq
      have HBQ := Lib.hid hbq
      have HPQ := Lib.hid hpq
      have HSQ := Lib.hid hsq
      have HTL := Lib.hid htl
      clear hwq hoq hdq hcq hbq hpq hsq htl e0 e1 e2 x0
      go_wp2_with (first
        | (at_builtin; refine wpList_append_row rfl (.tmp 61) (.tmp 65) 33 rfl base 5 i5 (.int .u8 0) 1 1 Try.underlying33 hi hz0 hz1 hz2 rfl (by decide) _ P.length (bytes P) rfl HPQ.out ab m cb (bytes (B.take m)) rfl (by rw [bytes_length, HTL.out]; simp) (fun h0 => src_app (src_take HSQ.out m) (by rw [HTL.out]; exact h0)) HNB.out (bytes_one _) (by unfold maxLen; omega) (by omega) hbs ?_))
      intro v2 w2 hown2 hon2 hat2 h5
      clear h5
      have hown3 : Own w2 base v2 (P ++ B.take m) := by
        unfold Own
        rw [List.length_append, HTL.out, ← bytes_app]
        exact hown2
      have HI2 := Lib.hid (HI1.out.putAll HCQ.out HOQ.out HG1.out hown3 hon2 hat2)
      have hb2 := HBQ.out.only hon2 (fun h => by have := ownsRow_lt HI.out.put _ h; omega)
      have k1 := hb2.cell 1 _ rfl
      have hPT : T.length ≤ P.length := by have := congrArg List.length HI.out.all; rw [List.length_append] at this; omega
      have hs2 := HI2.out.base_.2
      have hL1b := HI2.out.ch.fit
      have hL1m := HI2.out.ch.max
      clear hown2 hown3 hon2 hat2 hb2 d2
      go_wp2_with (first
        | (go_at_call 13; (with_reducible refine (whole_take HI2.out.ch n).mono ?_); rintro e w3 ⟨v3, rfl, hv3⟩; obtain ⟨a3, q3, T3, fr3, rfl, hqt, hs3, hn3, hc3, ho3⟩ := hv3; have HV3 := Lib.hid hs3; have HN3 := Lib.hid hn3; have HC3 := Lib.hid hc3; have HO3 := Lib.hid ho3; have HQT := Lib.hid hqt; have HT3 := Lib.hid ((owns_only HI2.out.taken ho3 (fun k hk hS => HI2.out.farT k hk (by rw [hS]; exact .inl rfl)) : Own w3 base u8 T)); have hs3b := Nat.le_trans hs2 ho3.size; have hq3 : q3 ≤ bound := (by obtain ⟨h1, h2⟩ := hqt; rw [h1, h2, List.length_take]; omega); clear hqt hs3 hn3 hc3 ho3)
        | (at_builtin; refine wpList_append_row rfl (.tmp 67) (.tmp 71) 33 rfl base 5 i5 (.int .u8 0) 1 1 Try.underlying33 hi hz0 hz1 hz2 rfl (by decide) _ T.length (bytes T) rfl HT3.out a3 q3 q3 (bytes T3) rfl (by rw [bytes_length, HQT.out.1]; simp) (fun h0 => src_app HV3.out (by rw [← HQT.out.1]; exact h0)) HN3.out (bytes_one _) (by unfold maxLen; omega) (by omega) hs3b ?_))
      intro v4 w4 hown4 hon4 hat4 h5
      clear h5
      have hown5 : Own w4 base v4 (T ++ (L ++ B.take m).take n.toNat) := by
        unfold Own
        rw [← HQT.out.2, List.length_append, ← HQT.out.1, ← bytes_app]
        exact hown4
      have HI4 := Lib.hid (HI2.out.takeAll HC3.out HO3.out hown5 hon4 hat4)
      have hPl2 : (P ++ B.take m).length ≤ (j + 1) * 1048576 := by rw [List.length_append, HTL.out]; omega
      have HPL := Lib.hid hPl2
      clear hown4 hown5 hon4 hat4 hPl2
      go_wp2_with fail
      go_roundw
      case rel => exact ⟨j + 1, g1, r1, fr3, _, _, _, _, by omega, by go_num, HPL.out, HI4.out⟩
      case measure => simp [intOf]; omega
    · have x0 := HI.out.box.cell 0 _ rfl
      have hb0 := HI.out.base_.2
      have hLb : L.length ≤ bound := by have := HI.out.ch.fit; have := HI.out.ch.max; omega
      have hPT : T.length ≤ P.length := by have := congrArg List.length HI.out.all; rw [List.length_append] at this; omega
      go_wp2_with (first
        | (go_at_call 13; (with_reducible refine (whole_take HI.out.ch bound).mono ?_); rintro e w3 ⟨v3, rfl, hv3⟩; obtain ⟨a3, q3, T3, fr3, rfl, hqt, hs3, hn3, hc3, ho3⟩ := hv3; have HV3 := Lib.hid hs3; have HN3 := Lib.hid hn3; have HC3 := Lib.hid hc3; have HO3 := Lib.hid ho3; have HQT := Lib.hid hqt; have HT3 := Lib.hid ((owns_only HI.out.taken ho3 (fun k hk hS => HI.out.farT k hk (by rw [hS]; exact .inl rfl)) : Own w3 base u8 T)); have hs3b := Nat.le_trans hb0 ho3.size; have hq3 : q3 ≤ bound := (by obtain ⟨h1, h2⟩ := hqt; rw [h1, h2, List.length_take]; omega); clear hqt hs3 hn3 hc3 ho3)
        | (at_builtin; refine wpList_append_row rfl (.tmp 74) (.tmp 78) 33 rfl base 5 i5 (.int .u8 0) 1 1 Try.underlying33 hi hz0 hz1 hz2 rfl (by decide) _ T.length (bytes T) rfl HT3.out a3 q3 q3 (bytes T3) rfl (by rw [bytes_length, HQT.out.1]; simp) (fun h0 => src_app HV3.out (by rw [← HQT.out.1]; exact h0)) HN3.out (bytes_one _) (by unfold maxLen; omega) (by omega) hs3b ?_))
      intro v4 w4 hown4 hon4 hat4 h5
      clear h5
      have hown5 : Own w4 base v4 (T ++ L.take (bound : Int).toNat) := by
        unfold Own
        rw [← HQT.out.2, List.length_append, ← HQT.out.1, ← bytes_app]
        exact hown4
      have HI4 := Lib.hid (HI.out.takeAll HC3.out HO3.out hown5 hon4 hat4)
      obtain ⟨s, hs⟩ : ∃ s, s = strOfNums P := ⟨_, rfl⟩
      have hcP : (convert 33 9 u7).run Try.prog w4 = .ok (.string s) w4 := by rw [hs]; exact conv_own HI4.out.put
      have hcT : (convert 33 9 v4).run Try.prog w4 = .ok (.string s) w4 := by
        have := conv_own HI4.out.taken
        rw [List.take_of_length_le (by simpa using hLb), ← HI.out.all, ← hs] at this
        exact this
      have hL0 : L.drop (bound : Int).toNat = [] := List.drop_eq_nil_of_le (by simpa using hLb)
      have e2 : (s.toList == s.toList) = true := beq_iff_eq.2 rfl
      have HL0 := Lib.hid hL0
      clear hown4 hown5 hon4 hat4 hs hL0 x0
      go_wp2_with (first
        | (go_at_call 20; (with_reducible refine (whole_len0 HI4.out.ch HL0.out).mono ?_); rintro e w' ⟨rfl, rfl⟩)
        | (go_at_call 10; (with_reducible refine (speaks_ok _).mono ?_); rintro e w5 ⟨rfl, hSp⟩; have HSP := Lib.hid hSp; clear hSp))
      go_ret
      exact ⟨rfl, below_only (HI4.out.own.below (Nat.le_refl _) (fun _ h => h)) (Below.only HSP.out (fun _ => False)) HI4.out.own.size (fun _ h => h.elim)⟩

set_option maxRecDepth 100000 in
theorem whole_bad (b h l : Int) (a : Option Addr) (len cap : Nat) (w : World) (hm : ¬ marksOk b h l) :
    Calls Try.prog 4 #[.agg #[.int .i64 b, .int .i64 h, .int .i64 l], .slice a len cap] w fun e w' => e = .returned (.bool true) ∧ Below w.heap.size w w' := by
  have HM := Lib.hid hm
  clear hm
  go_enter Try.func4, Try.ntmps4
  go_wp2_with (first
    | (go_at_call 8; (with_reducible refine (new_bad _ b h l HM.out).mono ?_); rintro e wa ⟨rfl, rfl⟩)
    | (go_at_call 10; (with_reducible refine (speaks_ok _).mono ?_); rintro e w2 ⟨rfl, hS⟩))
  go_ret
  refine ⟨rfl, ?_⟩
  have h1 : Below w.heap.size w (w.alloc (.cells #[.int .i64 b, .int .i64 h, .int .i64 l] 23)) := (Below.refl _ _).alloc (Nat.le_refl _) _
  exact below_only h1 (Below.only hS (fun _ => False)) h1.size (fun _ h => h.elim)
end Go.Proofs.Ytpkaaadnolmidaa
