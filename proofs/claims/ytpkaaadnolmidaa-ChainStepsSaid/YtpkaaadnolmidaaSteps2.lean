/- ChainSteps: the walk. -/
import Derived.Test.YtpkaaadnolmidaaSteps1
namespace Go.Proofs.Ytpkaaadnolmidaa
open Go.RowKit
set_option linter.unusedVariables false
set_option linter.unusedSimpArgs false

theorem steps_zero35 : ∀ w : World, (zeroValue 35).run Try.prog w = .ok (.agg #[.int .i64 0, .int .i64 0, .slice none 0 0]) w := fun w => by kernel_rfl

set_option maxRecDepth 100000 in
theorem steps_bad (b h l : Int) (a : Option Addr) (len cap : Nat) (w : World) (hm : ¬ marksOk b h l) :
    Calls Try.prog 3 #[.agg #[.int .i64 b, .int .i64 h, .int .i64 l], .slice a len cap] w fun e w' => e = .returned (.bool true) ∧ Below w.heap.size w w' := by
  have HM := Lib.hid hm
  clear hm
  go_enter Try.func3, Try.ntmps3
  go_wp2_with (first
    | (go_at_call 8; (with_reducible refine (new_bad _ b h l HM.out).mono ?_); rintro e wa ⟨rfl, rfl⟩)
    | (go_at_call 9; (with_reducible refine (rnew_bad _ b h l HM.out).mono ?_); rintro e wa ⟨rfl, rfl⟩)
    | (go_at_call 10; (with_reducible refine (speaks_ok _).mono ?_); rintro e w2 ⟨rfl, hS⟩))
  go_ret
  refine ⟨rfl, ?_⟩
  have h1 : Below w.heap.size w (w.alloc (.cells #[.int .i64 b, .int .i64 h, .int .i64 l] 23)) := (Below.refl _ _).alloc (Nat.le_refl _) _
  exact below_only h1 (Below.only hS (fun _ => False)) h1.size (fun _ h => h.elim)

theorem steps_new {w wx wa wb : World} {bound high low : Nat} (hox : Only (fun _ => False) w wx) (hxs : wx.heap.size = w.heap.size + 1) (hNa : NewPost wx wa bound high low) (hNb : RNewPost wa wb bound high low) :
    SI w wb wx.heap.size wa.heap.size wa.heap.size bound high low none [] 0 (.slice none 0 0) [] false := by
  have s1 := hNa.size
  have s2 := hNb.size
  refine ⟨hNa.ch.only (Below.only hNb.below (fun _ => False)) (fun _ _ => id), hNb.rc, ?_, fun k hk hk2 => ?_, fun k hk => ?_, by omega, by omega⟩
  · exact ((hox.mono (T := fun k => w.heap.size ≤ k) (fun _ _ h => h.elim)).trans (Below.only hNa.below (fun _ => False)) (fun _ _ h => h.elim)).trans (Below.only hNb.below (fun _ => False)) (fun _ _ h => h.elim)
  · rcases hk with hk | hk
    · rcases hk2 with hk2 | hk2
      · omega
      · cases hk2
    · cases hk
  · rcases hk with hk | hk
    · omega
    · cases hk

theorem OwnBytes.far {S : Nat → Prop} {w w' : World} {lo : Nat} {v : Value} {L : List Int} (h : OwnBytes w lo v L) (ho : Only S w w') (hd : ∀ b, lo ≤ b → S b → False) : OwnBytes w' lo v L := by
  rcases h with h | ⟨g, e, hl, hb, hn⟩
  · exact .inl h
  · exact .inr ⟨g, e, hl, hb.only ho (fun hs => hd g hl hs), hn⟩

theorem conv_bytes {w : World} {lo : Nat} {v : Value} {M : List Int} (h : OwnBytes w lo v M) (hM : M.length ≤ 1048576) : (convert 33 9 v).run Try.prog w = .ok (.string (strOfNums M)) w := by
  obtain ⟨ad, rfl, hs⟩ := src_ownBytes h hM
  exact conv_src hs

theorem conv_own2 {w : World} {lo : Nat} {v : Value} {M : List Int} (h : Own w lo v M) : (convert 33 9 v).run Try.prog w = .ok (.string (strOfNums M)) w := by
  obtain ⟨a, c, rfl, _, _, _, _⟩ := ownsRow_slice h
  exact conv_src (src_own h)

theorem SI.rc1 {w0 w w1 : World} {p pw lo bound high low : Nat} {g : Option Nat} {r : List Int} {fr : Nat} {v : Value} {L : List Int} {st : Bool} (h : SI w0 w p pw lo bound high low g r fr v L st) (ho : Only (fun k => k = p) w w1) : Rc w1 lo pw v bound high low L st :=
  h.rc.only ho (fun k hk hS => h.apart k (.inl hS) hk)

theorem steps_put {w0 w : World} {p pw lo bound high low : Nat} {g : Option Nat} {r : List Int} {fr : Nat} {v : Value} {L : List Int} {st : Bool} {ab : Option Addr} {cb : Nat} {B : List Int} {n m : Nat} (h : SI w0 w p pw lo bound high low g r fr v L st)
    (hs : Src w0 ab cb B) (hn : n = B.length ∧ m = min B.length (bound - L.length)) :
    Calls Try.prog 11 #[.pointer (some ⟨p, 0, none⟩), .slice ab n cb] w fun e w' => e = .returned (.int .i64 m) ∧ PutPost w w' p g bound high low (L ++ B.take m) (putStop high m (L ++ B.take m) st) := by
  obtain ⟨rfl, hm⟩ := hn
  refine put_any h.ch ab cb B (hs.far h.own (fun _ _ _ _ hl h => by omega)) (fun h0 gb off e hf => ?_) m hm
  obtain ⟨gb', off', e', hl, _⟩ := hs.at_ h0
  rw [e] at e'
  cases e'
  have := h.low_ gb hf
  omega

/-- The reference's Put behind it. -/
theorem steps_rput {w0 w w1 : World} {p pw lo bound high low : Nat} {g : Option Nat} {r : List Int} {fr : Nat} {v : Value} {L : List Int} {st : Bool} {ab : Option Addr} {cb : Nat} {B : List Int} {n m : Nat} (h : SI w0 w p pw lo bound high low g r fr v L st)
    (ho : Only (foot p g) w w1) (hs : Src w0 ab cb B) (hn : n = B.length ∧ m = min B.length (bound - L.length)) :
    Calls Try.prog 12 #[.pointer (some ⟨pw, 0, none⟩), .slice ab n cb] w1 fun e w' => e = .returned (.int .i64 m) ∧ RPutPost w1 w' lo pw v bound high low (L ++ B.take m) (putStop high m (L ++ B.take m) st) := by
  obtain ⟨rfl, hm⟩ := hn
  have hl := h.lo_
  have hs1 := ho.size
  refine rput_any (h.rc.only ho (fun k hk hS => h.apart k hS hk)) (by omega) ab cb B ((hs.far h.own (fun _ _ _ _ hl h => by omega)).far ho (fun h0 gb off e _ hf => ?_)) (fun h0 gb off e hf => ?_) m hm
  · obtain ⟨gb', off', e', hl, _⟩ := hs.at_ h0
    rw [e] at e'
    cases e'
    have := h.low_ gb hf
    omega
  · obtain ⟨gb', off', e', hl, _⟩ := hs.at_ h0
    rw [e] at e'
    cases e'
    have := (h.rc.lt gb hf).1
    omega

set_option maxRecDepth 100000 in
set_option maxHeartbeats 6400000 in
theorem steps_good (a : Option Addr) (len cap : Nat) (w : World) (hS : Steps w a len) (bound high low : Nat) (hm : marksOk bound high low) :
    Calls Try.prog 3 #[.agg #[.int .i64 bound, .int .i64 high, .int .i64 low], .slice a len cap] w fun e w' => e = .returned (.bool true) ∧ Below w.heap.size w w' := by
  have hbd : bound ≤ 1048576 := by obtain ⟨⟨_, _⟩, _⟩ := hm; omega
  have hmax := hS.max
  have HM := Lib.hid hm
  have HS := Lib.hid hS
  clear hm hS
  go_enter Try.func3, Try.ntmps3
  go_wp2_with fail
  have hx : Blk (w.alloc (Obj.cells #[.int .i64 bound, .int .i64 high, .int .i64 low] 23)) w.heap.size [.int .i64 bound, .int .i64 high, .int .i64 low] 23 := Blk.new w [.int .i64 bound, .int .i64 high, .int .i64 low] 23
  have hox : Only (fun _ => False) w (w.alloc (Obj.cells #[.int .i64 bound, .int .i64 high, .int .i64 low] 23)) := (Only.refl _ _).alloc _
  have hxs : (w.alloc (Obj.cells #[.int .i64 bound, .int .i64 high, .int .i64 low] 23)).heap.size = w.heap.size + 1 := by simp
  generalize w.alloc (Obj.cells #[.int .i64 bound, .int .i64 high, .int .i64 low] 23) = wx at hx hox hxs ⊢
  have HX := Lib.hid hx
  have HOX := Lib.hid hox
  have HXS := Lib.hid hxs
  clear hx hox hxs
  go_wp2_with (first
    | (go_at_call 8; (with_reducible refine (new_ok wx bound high low HM.out).mono ?_); rintro e wa ⟨rfl, hNa⟩; have hba := HX.out.below hNa.below (by have := HXS.out; omega); have x0 := hba.cell 0 _ rfl; have x1 := hba.cell 1 _ rfl; have x2 := hba.cell 2 _ rfl; have HNA := Lib.hid hNa; clear hNa hba)
    | (go_at_call 9; (with_reducible refine (rnew_ok wa bound high low HM.out).mono ?_); rintro e wb ⟨rfl, hNb⟩; have HI0 := Lib.hid (steps_new HOX.out HXS.out HNA.out hNb); clear hNb))
  obtain ⟨p, hp⟩ : ∃ p, p = wx.heap.size := ⟨_, rfl⟩
  obtain ⟨pw, hpw⟩ : ∃ pw, pw = wa.heap.size := ⟨_, rfl⟩
  rw [← hp, ← hpw] at HI0
  rw [← hp, ← hpw]
  clear hp hpw HX HOX HXS HNA x0 x1 x2
  go_loopw [46] (fun i wr => ∃ (j : Nat) (g : Option Nat) (r : List Int) (fr : Nat) (v : Value) (L : List Int) (st : Bool), j ≤ len ∧ i = .int .i64 j ∧ SI w wr p pw pw bound high low g r fr v L st) (fun i _ => len - (intOf i).toNat)
  case atStart => exact ⟨0, none, [], 0, _, [], false, Nat.zero_le _, rfl, HI0.out⟩
  case round =>
    obtain ⟨j, g, r, fr, v, L, st, hj, rfl, hI⟩ := hrel
    have HI := Lib.hid hI
    clear hI
    by_cases hlt : j < len
    · obtain ⟨b, off, rfl, hbl, hst⟩ := HS.out.at_ (by omega)
      obtain ⟨kd, n, ab, cb, B, hc0, hc1, hc2, hsB, hnB⟩ := hst j hlt
      have hblk := HI.out.own.block b hbl (by omega)
      obtain ⟨q, hq⟩ : ∃ q, q = B.length := ⟨_, rfl⟩
      obtain ⟨m, hm⟩ : ∃ m, m = min B.length (bound - L.length) := ⟨_, rfl⟩
      rw [← hq] at hc2
      have d0 := (World.cell?_of_block (a := ⟨b, off + j * 3, none⟩) hblk).trans hc0
      have d1 := (World.cell?_of_block (a := ⟨b, off + j * 3 + 1, none⟩) hblk).trans hc1
      have d2 := (World.cell?_of_block (a := ⟨b, off + j * 3 + 2, none⟩) hblk).trans hc2
      have HB := Lib.hid hsB
      have HQM := Lib.hid (⟨hq, hm⟩ : q = B.length ∧ m = min B.length (bound - L.length))
      have z35 := steps_zero35
      clear hst hc0 hc1 hc2 hblk hsB hnB hq hm
      rcases (show kd = 0 ∨ kd = 1 ∨ kd = 2 ∨ (kd ≠ 0 ∧ kd ≠ 1 ∧ kd ≠ 2) by omega) with rfl | rfl | rfl | ⟨hk0, hk1, hk2⟩
      · go_wp2_with fail
        have hbn : Blk (wr.alloc (Obj.cells #[.int .i64 0, .int .i64 n, .slice ab q cb] 35)) wr.heap.size [.int .i64 0, .int .i64 n, .slice ab q cb] 35 := Blk.new wr [.int .i64 0, .int .i64 n, .slice ab q cb] 35
        have hon : Only (fun _ => False) wr (wr.alloc (Obj.cells #[.int .i64 0, .int .i64 n, .slice ab q cb] 35)) := (Only.refl _ _).alloc _
        generalize wr.alloc (Obj.cells #[.int .i64 0, .int .i64 n, .slice ab q cb] 35) = wn at hbn hon ⊢
        have hId := (HI.out.far hon (fun _ h => h.elim)).far ((Only.refl (fun _ => False) wn).drew) (fun _ h => h.elim)
        have HF := Lib.hid HI.out.ch.lt
        have HFR := Lib.hid HI.out.rc.lt
        have HBN := Lib.hid hbn.drew
        have k0 := hbn.drew.cell 2 _ rfl
        have HID := Lib.hid hId
        clear hbn hon hId d0 d1 d2 z35
        go_region_held3 (fun w' => w'.cell? ⟨wr.heap.size, 2, none⟩ = some (.slice ab q cb))
          (first | exact k0 | exact k1 | exact k2)
          (first
            | (go_at_call 11; (with_reducible refine (steps_put HID.out HB.out HQM.out).mono ?_); rintro e w1 ⟨rfl, hP⟩; obtain ⟨g1, r1, fr1, hc1, ho1, hg1⟩ := hP; have hb1 := HBN.out.only ho1 (fun h => by have := HF.out _ h; omega); have k1 := hb1.cell 2 _ rfl; have HB1 := Lib.hid hb1; have HC1 := Lib.hid hc1; have HO1 := Lib.hid ho1; have HG1 := Lib.hid hg1; clear hc1 ho1 hg1 hb1)
            | (go_at_call 12; (with_reducible refine (steps_rput HID.out HO1.out HB.out HQM.out).mono ?_); rintro e w2 ⟨rfl, hR⟩; obtain ⟨v2, hr2, ho2, hv2⟩ := hR; have hb2 := HB1.out.only ho2 (fun h => by have := HFR.out _ h; omega); have k2 := hb2.cell 2 _ rfl; have HI2 := Lib.hid (HID.out.both HC1.out HO1.out (fun _ h => .inl h) HG1.out hr2 ho2 (fun _ h => .inl h) hv2); clear hr2 ho2 hv2 hb2))
        clear k0 k1 k2
        go_wp2_with fail
        obtain ⟨L1, hL1⟩ : ∃ L1, L1 = L ++ B.take m := ⟨_, rfl⟩
        obtain ⟨s1, hs1⟩ : ∃ s1, s1 = putStop high m (L ++ B.take m) st := ⟨_, rfl⟩
        have hi2 := HI2.out
        rw [← hs1, ← hL1] at hi2
        obtain ⟨ao, cq, rfl, _, _, _, _⟩ := ownsRow_slice hi2.rc.own
        have r0 := hi2.rc.blk.cell 0 _ rfl
        have r3 := hi2.rc.blk.cell 3 _ rfl
        have r4 := hi2.rc.blk.cell 4 _ rfl
        have hm1 := hi2.rc.max
        have ew : IntKind.i64.wrap ((bound : Int) - (L1.length : Int)) = (bound : Int) - L1.length := IntWalk.i64_in _ (by omega)
        have HJ := Lib.hid hi2
        clear hi2 hL1 hs1
        go_quiet ((first
          | (go_at_call 20; refine (len_any (HJ.out.ch.drawn (Drawn.of w2 _))).mono ?_; rintro e w' ⟨rfl, rfl⟩; exact ⟨rfl, _, rfl⟩)
          | (go_at_call 22; refine (stopped_any (HJ.out.ch.drawn (Drawn.of w2 _))).mono ?_; rintro e w' ⟨rfl, rfl⟩; exact ⟨rfl, _, rfl⟩)
          | (go_at_call 21; refine (room_any (HJ.out.ch.drawn (Drawn.of w2 _))).mono ?_; rintro e w' ⟨rfl, hd⟩; exact ⟨rfl, (Drawn.of w2 _).trans hd⟩)))
        go_wp2_with fail
        go_roundw
        case rel => exact ⟨j + 1, _, _, _, _, _, _, by omega, by go_num, HJ.out.far ((Drawn.of w2 _).only (fun _ => False)) (fun _ h => h.elim)⟩
        case measure => simp [intOf]; omega
      · go_wp2_with fail
        have hbn : Blk (wr.alloc (Obj.cells #[.int .i64 1, .int .i64 n, .slice ab q cb] 35)) wr.heap.size [.int .i64 1, .int .i64 n, .slice ab q cb] 35 := Blk.new wr [.int .i64 1, .int .i64 n, .slice ab q cb] 35
        have hon : Only (fun _ => False) wr (wr.alloc (Obj.cells #[.int .i64 1, .int .i64 n, .slice ab q cb] 35)) := (Only.refl _ _).alloc _
        generalize wr.alloc (Obj.cells #[.int .i64 1, .int .i64 n, .slice ab q cb] 35) = wn at hbn hon ⊢
        have hId := (HI.out.far hon (fun _ h => h.elim)).far ((Only.refl (fun _ => False) wn).drew) (fun _ h => h.elim)
        have HF := Lib.hid HI.out.ch.lt
        have HFR := Lib.hid HI.out.rc.lt
        have HBN := Lib.hid hbn.drew
        have k0 := hbn.drew.cell 1 _ rfl
        have HID := Lib.hid hId
        clear hbn hon hId d0 d1 d2 z35
        obtain ⟨T, hT⟩ : ∃ T, T = L.take n.toNat := ⟨_, rfl⟩
        have hTl : T.length ≤ 1048576 := by have := HID.out.ch.fit; have := HID.out.ch.max; rw [hT, List.length_take]; omega
        obtain ⟨s, hs⟩ : ∃ s, s = strOfNums T := ⟨_, rfl⟩
        have hcv : ∀ (v : Value) (lo : Nat) (w' : World), OwnBytes w' lo v T → (convert 33 9 v).run Try.prog w' = .ok (.string s) w' := fun v lo w' h => by rw [hs]; exact conv_bytes h hTl
        have hcu : ∀ (v : Value) (lo : Nat) (w' : World), Own w' lo v T → (convert 33 9 v).run Try.prog w' = .ok (.string s) w' := fun v lo w' h => by rw [hs]; exact conv_own2 h
        have e2 : (s.toList == s.toList) = true := beq_iff_eq.2 rfl
        have HT := Lib.hid hT
        clear hT hs
        refine wp_region_noPanic ?_
        refine wp_region_held_drew (S := fun w' => w'.cell? ⟨wr.heap.size, 1, none⟩ = some (.int .i64 n)) (by kernel_rfl) (by assumption) (fun hHeld => ?_)
        refine wpAnyH_take (i := 0) (v := ?_) rfl (by kernel_rfl) (by kernel_rfl) (by kernel_rfl) (fun _ _ _ h => h) (Or.inl ⟨by rfl, ?_⟩) (by assumption) ?_
        rotate_left 1
        · (intro w hSw; (try dsimp only at hSw); go_simp) <;> with_reducible rfl
        try simp only [Act.put, List.setIfInBounds_toArray, List.set_cons_zero, List.set_cons_succ, List.getElem_toArray, List.getElem_cons_zero, List.getElem_cons_succ]
        refine wpAnyH_take (i := 1) (v := ?_) rfl (by kernel_rfl) (by kernel_rfl) (by kernel_rfl) (fun _ _ _ h => h) (Or.inl ⟨by rfl, ?_⟩) (by assumption) ?_
        rotate_left 1
        · (intro w hSw; (try dsimp only at hSw); go_simp) <;> with_reducible rfl
        try simp only [Act.put, List.setIfInBounds_toArray, List.set_cons_zero, List.set_cons_succ, List.getElem_toArray, List.getElem_cons_zero, List.getElem_cons_succ]
        refine wpAnyH_take (i := 2) (v := ?_) rfl (by kernel_rfl) (by kernel_rfl) (by kernel_rfl) (fun _ _ _ h => h) (Or.inl ⟨by rfl, ?_⟩) (by assumption) ?_
        rotate_left 1
        · (intro w hSw; (try dsimp only at hSw); go_simp) <;> with_reducible rfl
        try simp only [Act.put, List.setIfInBounds_toArray, List.set_cons_zero, List.set_cons_succ, List.getElem_toArray, List.getElem_cons_zero, List.getElem_cons_succ]
        refine wpAnyH_take (i := 5) (v := ?_) rfl (by kernel_rfl) (by kernel_rfl) (by kernel_rfl) (fun _ _ _ h => h) (Or.inl ⟨by rfl, ?_⟩) (by assumption) ?_
        rotate_left 1
        · (intro w hSw; (try dsimp only at hSw); go_simp) <;> with_reducible rfl
        try simp only [Act.put, List.setIfInBounds_toArray, List.set_cons_zero, List.set_cons_succ, List.getElem_toArray, List.getElem_cons_zero, List.getElem_cons_succ]
        refine wpAnyH_take (i := 6) (v := ?_) rfl (by kernel_rfl) (by kernel_rfl) (by kernel_rfl) (fun _ _ _ h => h) (Or.inl ⟨by rfl, ?_⟩) (by assumption) ?_
        rotate_left 1
        · (intro w hSw; (try dsimp only at hSw); go_simp) <;> with_reducible rfl
        try simp only [Act.put, List.setIfInBounds_toArray, List.set_cons_zero, List.set_cons_succ, List.getElem_toArray, List.getElem_cons_zero, List.getElem_cons_succ]
        refine wpAnyH_take (i := 7) (v := ?_) rfl (by kernel_rfl) (by kernel_rfl) (by kernel_rfl) (fun _ _ _ h => h) (Or.inl ⟨by rfl, ?_⟩) (by assumption) ?_
        rotate_left 1
        · (intro w hSw; (try dsimp only at hSw); go_simp) <;> with_reducible rfl
        try simp only [Act.put, List.setIfInBounds_toArray, List.set_cons_zero, List.set_cons_succ, List.getElem_toArray, List.getElem_cons_zero, List.getElem_cons_succ]
        refine wpAnyH_ready (rs := [3]) (by kernel_rfl) (by simp) ?_
        refine (AllReadyH.cons rfl (fun K hK => ?_) AllReadyH.nil)
        go_simp
        (go_at_call 13; (with_reducible refine (take_any HID.out.ch n).mono ?_); rintro e w1 ⟨vt, rfl, hP⟩; obtain ⟨hvt, fr1, hc1, ho1⟩ := hP; rw [← HT.out] at hvt; have hb1 := HBN.out.only ho1 (fun h => by have := HF.out p (.inl rfl); omega); have k1 := hb1.cell 1 _ rfl; have HB1 := Lib.hid hb1; have HC1 := Lib.hid hc1; have HO1 := Lib.hid ho1; clear hc1 ho1 hb1)
        go_wp2_with fail
        refine hK.out _ _ (k1) (fun hHeld => ?_)
        clear hK K
        try simp only [Act.put, List.setIfInBounds_toArray, List.set_cons_zero, List.set_cons_succ, List.getElem_toArray, List.getElem_cons_zero, List.getElem_cons_succ]
        have hs1 := (⟨k1, hvt⟩ : _ ∧ _)
        have hcv1 := fun w' => hcv vt wn.heap.size w'
        refine wpAnyH_imp (S' := fun w' => (w'.cell? ⟨wr.heap.size, 1, none⟩ = some (.int .i64 n)) ∧ OwnBytes w' wn.heap.size vt T) (fun w h => h.1) _ _ _ _ ?_
        refine wpAnyH_take (i := 4) (v := ?_) rfl (by kernel_rfl) (by kernel_rfl) (by kernel_rfl) (fun _ _ _ h => h) (Or.inl ⟨by rfl, ?_⟩) (by assumption) ?_
        rotate_left 1
        · (intro w hSw; (try dsimp only at hSw); go_simp) <;> with_reducible rfl
        try simp only [Act.put, List.setIfInBounds_toArray, List.set_cons_zero, List.set_cons_succ, List.getElem_toArray, List.getElem_cons_zero, List.getElem_cons_succ]
        refine wpAnyH_ready (rs := [8]) (by kernel_rfl) (by simp) ?_
        refine (AllReadyH.cons rfl (fun K hK => ?_) AllReadyH.nil)
        go_simp
        (go_at_call 14; (with_reducible refine (rtake_any (SI.rc1 HID.out HO1.out) (Nat.le_trans HID.out.lo_.2 HO1.out.size) n).mono ?_); rintro e w2 ⟨u, rfl, hR⟩; obtain ⟨v2, hr2, hu2, ho2, hv2⟩ := hR; rw [← HT.out] at hu2; have hb2 := HB1.out.only ho2 (fun h => by have := HFR.out pw (.inl rfl); omega); have k2 := hb2.cell 1 _ rfl; have hs2 := (⟨k2, OwnBytes.far hs1.2 ho2 (fun b hb h => by have := (HID.out.rc.lt pw (.inl rfl)).2; omega)⟩ : _ ∧ _); have hs3 := (⟨hs2, hu2⟩ : (_ ∧ _) ∧ _); have HI2 := Lib.hid (HID.out.both HC1.out HO1.out (fun _ h => Or.inl (Or.inl h)) (.inl rfl) hr2 ho2 (fun _ h => Or.inl (Or.inl h)) (fun b hb => .inr (hv2 b hb))); clear hr2 ho2 hv2 hb2)
        go_wp2_with fail
        refine hK.out _ _ (hs2) (fun hHeld => ?_)
        clear hK K
        try simp only [Act.put, List.setIfInBounds_toArray, List.set_cons_zero, List.set_cons_succ, List.getElem_toArray, List.getElem_cons_zero, List.getElem_cons_succ]
        have hcv2 := fun w' => hcu u w1.heap.size w'
        refine wpAnyH_imp (S' := fun w' => ((w'.cell? ⟨wr.heap.size, 1, none⟩ = some (.int .i64 n)) ∧ OwnBytes w' wn.heap.size vt T) ∧ Own w' w1.heap.size u T) (fun w h => h.1) _ _ _ _ ?_
        refine wpAnyH_take (i := 9) (v := ?_) rfl (by kernel_rfl) (by kernel_rfl) (by kernel_rfl) (fun _ _ _ h => h) (Or.inl ⟨by rfl, ?_⟩) (by assumption) ?_
        rotate_left 1
        · (intro w hSw; (try dsimp only at hSw); go_simp) <;> with_reducible rfl
        try simp only [Act.put, List.setIfInBounds_toArray, List.set_cons_zero, List.set_cons_succ, List.getElem_toArray, List.getElem_cons_zero, List.getElem_cons_succ]
        refine wpAnyH_take (i := 10) (v := ?_) rfl (by kernel_rfl) (by kernel_rfl) (by kernel_rfl) (fun _ _ _ h => h) (Or.inl ⟨by rfl, ?_⟩) (by assumption) ?_
        rotate_left 1
        · (intro w hSw; (try dsimp only at hSw); go_simp) <;> with_reducible rfl
        try simp only [Act.put, List.setIfInBounds_toArray, List.set_cons_zero, List.set_cons_succ, List.getElem_toArray, List.getElem_cons_zero, List.getElem_cons_succ]
        refine wpAnyH_done (by kernel_rfl) ?_ _
        refine NoPanic.normal ?_
        clear hcv hcu hcv1 hcv2 hs1 hs2 hs3 hvt hu2 e2
        clear k0 k1 k2
        go_wp2_with fail
        obtain ⟨L1, hL1⟩ : ∃ L1, L1 = L.drop n.toNat := ⟨_, rfl⟩
        obtain ⟨s1, hs1⟩ : ∃ s1, s1 = dropStop low (L.drop n.toNat) st := ⟨_, rfl⟩
        have hi2 := HI2.out
        rw [← hs1, ← hL1] at hi2
        obtain ⟨ao, cq, rfl, _, _, _, _⟩ := ownsRow_slice hi2.rc.own
        have r0 := hi2.rc.blk.cell 0 _ rfl
        have r3 := hi2.rc.blk.cell 3 _ rfl
        have r4 := hi2.rc.blk.cell 4 _ rfl
        have hm1 := hi2.rc.max
        have ew : IntKind.i64.wrap ((bound : Int) - (L1.length : Int)) = (bound : Int) - L1.length := IntWalk.i64_in _ (by omega)
        have HJ := Lib.hid hi2
        clear hi2 hL1 hs1
        go_quiet ((first
          | (go_at_call 20; refine (len_any (HJ.out.ch.drawn (Drawn.of w2 _))).mono ?_; rintro e w' ⟨rfl, rfl⟩; exact ⟨rfl, _, rfl⟩)
          | (go_at_call 22; refine (stopped_any (HJ.out.ch.drawn (Drawn.of w2 _))).mono ?_; rintro e w' ⟨rfl, rfl⟩; exact ⟨rfl, _, rfl⟩)
          | (go_at_call 21; refine (room_any (HJ.out.ch.drawn (Drawn.of w2 _))).mono ?_; rintro e w' ⟨rfl, hd⟩; exact ⟨rfl, (Drawn.of w2 _).trans hd⟩)))
        go_wp2_with fail
        go_roundw
        case rel => exact ⟨j + 1, _, _, _, _, _, _, by omega, by go_num, HJ.out.far ((Drawn.of w2 _).only (fun _ => False)) (fun _ h => h.elim)⟩
        case measure => simp [intOf]; omega
      · go_wp2_with fail
        have hbn : Blk (wr.alloc (Obj.cells #[.int .i64 2, .int .i64 n, .slice ab q cb] 35)) wr.heap.size [.int .i64 2, .int .i64 n, .slice ab q cb] 35 := Blk.new wr [.int .i64 2, .int .i64 n, .slice ab q cb] 35
        have hon : Only (fun _ => False) wr (wr.alloc (Obj.cells #[.int .i64 2, .int .i64 n, .slice ab q cb] 35)) := (Only.refl _ _).alloc _
        generalize wr.alloc (Obj.cells #[.int .i64 2, .int .i64 n, .slice ab q cb] 35) = wn at hbn hon ⊢
        have hId := (HI.out.far hon (fun _ h => h.elim)).far ((Only.refl (fun _ => False) wn).drew) (fun _ h => h.elim)
        have HF := Lib.hid HI.out.ch.lt
        have HFR := Lib.hid HI.out.rc.lt
        have HBN := Lib.hid hbn.drew
        have k0 := hbn.drew.cell 1 _ rfl
        have HID := Lib.hid hId
        clear hbn hon hId d0 d1 d2 z35
        go_region_held3 (fun w' => w'.cell? ⟨wr.heap.size, 1, none⟩ = some (.int .i64 n))
          (first | exact k0 | exact k1 | exact k2)
          (first
            | (go_at_call 15; (with_reducible refine (drop_any HID.out.ch n).mono ?_); rintro e w1 ⟨rfl, hP⟩; obtain ⟨fr1, hc1, ho1⟩ := hP; have hb1 := HBN.out.only ho1 (fun h => by have := HF.out p (Or.inl rfl); omega); have k1 := hb1.cell 1 _ rfl; have HB1 := Lib.hid hb1; have HC1 := Lib.hid hc1; have HO1 := Lib.hid ho1; clear hc1 ho1 hb1)
            | (go_at_call 14; (with_reducible refine (rtake_any (SI.rc1 HID.out HO1.out) (Nat.le_trans HID.out.lo_.2 HO1.out.size) n).mono ?_); rintro e w2 ⟨u, rfl, hR⟩; obtain ⟨v2, hr2, hu2, ho2, hv2⟩ := hR; obtain ⟨au, cu, rfl, _, _, _, _⟩ := ownsRow_slice hu2; have hb2 := HB1.out.only ho2 (fun h => by have := HFR.out pw (Or.inl rfl); omega); have k2 := hb2.cell 1 _ rfl; have HI2 := Lib.hid (HID.out.both HC1.out HO1.out (fun _ h => Or.inl (Or.inl h)) (.inl rfl) hr2 ho2 (fun _ h => Or.inl (Or.inl h)) (fun b hb => .inr (hv2 b hb))); clear hr2 hu2 ho2 hv2 hb2))
        clear k0 k1 k2
        go_wp2_with fail
        obtain ⟨L1, hL1⟩ : ∃ L1, L1 = L.drop n.toNat := ⟨_, rfl⟩
        obtain ⟨s1, hs1⟩ : ∃ s1, s1 = dropStop low (L.drop n.toNat) st := ⟨_, rfl⟩
        have hi2 := HI2.out
        rw [← hs1, ← hL1] at hi2
        obtain ⟨ao, cq, rfl, _, _, _, _⟩ := ownsRow_slice hi2.rc.own
        have r0 := hi2.rc.blk.cell 0 _ rfl
        have r3 := hi2.rc.blk.cell 3 _ rfl
        have r4 := hi2.rc.blk.cell 4 _ rfl
        have hm1 := hi2.rc.max
        have ew : IntKind.i64.wrap ((bound : Int) - (L1.length : Int)) = (bound : Int) - L1.length := IntWalk.i64_in _ (by omega)
        have HJ := Lib.hid hi2
        clear hi2 hL1 hs1
        go_quiet ((first
          | (go_at_call 20; refine (len_any (HJ.out.ch.drawn (Drawn.of w2 _))).mono ?_; rintro e w' ⟨rfl, rfl⟩; exact ⟨rfl, _, rfl⟩)
          | (go_at_call 22; refine (stopped_any (HJ.out.ch.drawn (Drawn.of w2 _))).mono ?_; rintro e w' ⟨rfl, rfl⟩; exact ⟨rfl, _, rfl⟩)
          | (go_at_call 21; refine (room_any (HJ.out.ch.drawn (Drawn.of w2 _))).mono ?_; rintro e w' ⟨rfl, hd⟩; exact ⟨rfl, (Drawn.of w2 _).trans hd⟩)))
        go_wp2_with fail
        go_roundw
        case rel => exact ⟨j + 1, _, _, _, _, _, _, by omega, by go_num, HJ.out.far ((Drawn.of w2 _).only (fun _ => False)) (fun _ h => h.elim)⟩
        case measure => simp [intOf]; omega
      · have q0 : (kd == 0) = false := beq_eq_false_iff_ne.2 hk0
        have q1 : (kd == 1) = false := beq_eq_false_iff_ne.2 hk1
        have q2 : (kd == 2) = false := beq_eq_false_iff_ne.2 hk2
        clear hk0 hk1 hk2
        go_wp2_with fail
        have hbn : Blk (wr.alloc (Obj.cells #[.int .i64 kd, .int .i64 n, .slice ab q cb] 35)) wr.heap.size [.int .i64 kd, .int .i64 n, .slice ab q cb] 35 := Blk.new wr [.int .i64 kd, .int .i64 n, .slice ab q cb] 35
        have hon : Only (fun _ => False) wr (wr.alloc (Obj.cells #[.int .i64 kd, .int .i64 n, .slice ab q cb] 35)) := (Only.refl _ _).alloc _
        generalize wr.alloc (Obj.cells #[.int .i64 kd, .int .i64 n, .slice ab q cb] 35) = wn at hbn hon ⊢
        have hId := (HI.out.far hon (fun _ h => h.elim)).far ((Only.refl (fun _ => False) wn).drew) (fun _ h => h.elim)
        have HBN := Lib.hid hbn.drew
        have k0 := hbn.drew.cell 1 _ rfl
        have HID := Lib.hid hId
        clear hbn hon hId d0 d1 d2 z35
        obtain ⟨T, hT⟩ : ∃ T, T = L.take n.toNat := ⟨_, rfl⟩
        have hTl : T.length ≤ 1048576 := by have := HID.out.ch.fit; have := HID.out.ch.max; rw [hT, List.length_take]; omega
        obtain ⟨s, hs⟩ : ∃ s, s = strOfNums T := ⟨_, rfl⟩
        have hcv : ∀ (v : Value) (lo : Nat) (w' : World), OwnBytes w' lo v T → (convert 33 9 v).run Try.prog w' = .ok (.string s) w' := fun v lo w' h => by rw [hs]; exact conv_bytes h hTl
        have hcu : ∀ (v : Value) (lo : Nat) (w' : World), Own w' lo v T → (convert 33 9 v).run Try.prog w' = .ok (.string s) w' := fun v lo w' h => by rw [hs]; exact conv_own2 h
        have e2 : (s.toList == s.toList) = true := beq_iff_eq.2 rfl
        have HT := Lib.hid hT
        clear hT hs
        refine wp_region_noPanic ?_
        refine wp_region_held_drew (S := fun w' => w'.cell? ⟨wr.heap.size, 1, none⟩ = some (.int .i64 n)) (by kernel_rfl) (by assumption) (fun hHeld => ?_)
        refine wpAnyH_take (i := 0) (v := ?_) rfl (by kernel_rfl) (by kernel_rfl) (by kernel_rfl) (fun _ _ _ h => h) (Or.inl ⟨by rfl, ?_⟩) (by assumption) ?_
        rotate_left 1
        · (intro w hSw; (try dsimp only at hSw); go_simp) <;> with_reducible rfl
        try simp only [Act.put, List.setIfInBounds_toArray, List.set_cons_zero, List.set_cons_succ, List.getElem_toArray, List.getElem_cons_zero, List.getElem_cons_succ]
        refine wpAnyH_take (i := 1) (v := ?_) rfl (by kernel_rfl) (by kernel_rfl) (by kernel_rfl) (fun _ _ _ h => h) (Or.inl ⟨by rfl, ?_⟩) (by assumption) ?_
        rotate_left 1
        · (intro w hSw; (try dsimp only at hSw); go_simp) <;> with_reducible rfl
        try simp only [Act.put, List.setIfInBounds_toArray, List.set_cons_zero, List.set_cons_succ, List.getElem_toArray, List.getElem_cons_zero, List.getElem_cons_succ]
        refine wpAnyH_take (i := 2) (v := ?_) rfl (by kernel_rfl) (by kernel_rfl) (by kernel_rfl) (fun _ _ _ h => h) (Or.inl ⟨by rfl, ?_⟩) (by assumption) ?_
        rotate_left 1
        · (intro w hSw; (try dsimp only at hSw); go_simp) <;> with_reducible rfl
        try simp only [Act.put, List.setIfInBounds_toArray, List.set_cons_zero, List.set_cons_succ, List.getElem_toArray, List.getElem_cons_zero, List.getElem_cons_succ]
        refine wpAnyH_take (i := 5) (v := ?_) rfl (by kernel_rfl) (by kernel_rfl) (by kernel_rfl) (fun _ _ _ h => h) (Or.inl ⟨by rfl, ?_⟩) (by assumption) ?_
        rotate_left 1
        · (intro w hSw; (try dsimp only at hSw); go_simp) <;> with_reducible rfl
        try simp only [Act.put, List.setIfInBounds_toArray, List.set_cons_zero, List.set_cons_succ, List.getElem_toArray, List.getElem_cons_zero, List.getElem_cons_succ]
        refine wpAnyH_take (i := 6) (v := ?_) rfl (by kernel_rfl) (by kernel_rfl) (by kernel_rfl) (fun _ _ _ h => h) (Or.inl ⟨by rfl, ?_⟩) (by assumption) ?_
        rotate_left 1
        · (intro w hSw; (try dsimp only at hSw); go_simp) <;> with_reducible rfl
        try simp only [Act.put, List.setIfInBounds_toArray, List.set_cons_zero, List.set_cons_succ, List.getElem_toArray, List.getElem_cons_zero, List.getElem_cons_succ]
        refine wpAnyH_take (i := 7) (v := ?_) rfl (by kernel_rfl) (by kernel_rfl) (by kernel_rfl) (fun _ _ _ h => h) (Or.inl ⟨by rfl, ?_⟩) (by assumption) ?_
        rotate_left 1
        · (intro w hSw; (try dsimp only at hSw); go_simp) <;> with_reducible rfl
        try simp only [Act.put, List.setIfInBounds_toArray, List.set_cons_zero, List.set_cons_succ, List.getElem_toArray, List.getElem_cons_zero, List.getElem_cons_succ]
        refine wpAnyH_ready (rs := [3]) (by kernel_rfl) (by simp) ?_
        refine (AllReadyH.cons rfl (fun K hK => ?_) AllReadyH.nil)
        go_simp
        (go_at_call 16; (with_reducible refine (peek_any HID.out.ch n).mono ?_); rintro e w1 ⟨vt, rfl, hP⟩; obtain ⟨hvt, ho1⟩ := hP; rw [← HT.out] at hvt; have hb1 := HBN.out.only ho1 id; have k1 := hb1.cell 1 _ rfl; have HB1 := Lib.hid hb1; have HI1 := Lib.hid (HID.out.far ho1 (fun _ h => h.elim)); clear ho1 hb1)
        go_wp2_with fail
        refine hK.out _ _ (k1) (fun hHeld => ?_)
        clear hK K
        try simp only [Act.put, List.setIfInBounds_toArray, List.set_cons_zero, List.set_cons_succ, List.getElem_toArray, List.getElem_cons_zero, List.getElem_cons_succ]
        have hs1 := (⟨k1, hvt⟩ : _ ∧ _)
        have hcv1 := fun w' => hcv vt wn.heap.size w'
        refine wpAnyH_imp (S' := fun w' => (w'.cell? ⟨wr.heap.size, 1, none⟩ = some (.int .i64 n)) ∧ OwnBytes w' wn.heap.size vt T) (fun w h => h.1) _ _ _ _ ?_
        refine wpAnyH_take (i := 4) (v := ?_) rfl (by kernel_rfl) (by kernel_rfl) (by kernel_rfl) (fun _ _ _ h => h) (Or.inl ⟨by rfl, ?_⟩) (by assumption) ?_
        rotate_left 1
        · (intro w hSw; (try dsimp only at hSw); go_simp) <;> with_reducible rfl
        try simp only [Act.put, List.setIfInBounds_toArray, List.set_cons_zero, List.set_cons_succ, List.getElem_toArray, List.getElem_cons_zero, List.getElem_cons_succ]
        refine wpAnyH_ready (rs := [8]) (by kernel_rfl) (by simp) ?_
        refine (AllReadyH.cons rfl (fun K hK => ?_) AllReadyH.nil)
        go_simp
        (go_at_call 17; (with_reducible refine (rpeek_any HI1.out.rc n).mono ?_); rintro e w2 ⟨u, rfl, hR⟩; obtain ⟨hu2, ho2⟩ := hR; rw [← HT.out] at hu2; have hb2 := HB1.out.only ho2 id; have k2 := hb2.cell 1 _ rfl; have hs2 := (⟨k2, OwnBytes.far hs1.2 ho2 (fun b hb h => h)⟩ : _ ∧ _); have hs3 := (⟨hs2, hu2⟩ : (_ ∧ _) ∧ _); have HB2 := Lib.hid hb2; have HI2 := Lib.hid (HI1.out.far ho2 (fun _ h => h.elim)); clear ho2 hb2)
        go_wp2_with fail
        refine hK.out _ _ (hs2) (fun hHeld => ?_)
        clear hK K
        try simp only [Act.put, List.setIfInBounds_toArray, List.set_cons_zero, List.set_cons_succ, List.getElem_toArray, List.getElem_cons_zero, List.getElem_cons_succ]
        have hcv2 := fun w' => hcu u w1.heap.size w'
        refine wpAnyH_imp (S' := fun w' => ((w'.cell? ⟨wr.heap.size, 1, none⟩ = some (.int .i64 n)) ∧ OwnBytes w' wn.heap.size vt T) ∧ Own w' w1.heap.size u T) (fun w h => h.1) _ _ _ _ ?_
        refine wpAnyH_take (i := 9) (v := ?_) rfl (by kernel_rfl) (by kernel_rfl) (by kernel_rfl) (fun _ _ _ h => h) (Or.inl ⟨by rfl, ?_⟩) (by assumption) ?_
        rotate_left 1
        · (intro w hSw; (try dsimp only at hSw); go_simp) <;> with_reducible rfl
        try simp only [Act.put, List.setIfInBounds_toArray, List.set_cons_zero, List.set_cons_succ, List.getElem_toArray, List.getElem_cons_zero, List.getElem_cons_succ]
        refine wpAnyH_take (i := 10) (v := ?_) rfl (by kernel_rfl) (by kernel_rfl) (by kernel_rfl) (fun _ _ _ h => h) (Or.inl ⟨by rfl, ?_⟩) (by assumption) ?_
        rotate_left 1
        · (intro w hSw; (try dsimp only at hSw); go_simp) <;> with_reducible rfl
        try simp only [Act.put, List.setIfInBounds_toArray, List.set_cons_zero, List.set_cons_succ, List.getElem_toArray, List.getElem_cons_zero, List.getElem_cons_succ]
        refine wpAnyH_take (i := 11) (v := ?_) rfl (by kernel_rfl) (by kernel_rfl) (by kernel_rfl) (fun _ _ _ h => h) (Or.inl ⟨by rfl, ?_⟩) (by assumption) ?_
        rotate_left 1
        · (intro w hSw; (try dsimp only at hSw); go_simp) <;> with_reducible rfl
        try simp only [Act.put, List.setIfInBounds_toArray, List.set_cons_zero, List.set_cons_succ, List.getElem_toArray, List.getElem_cons_zero, List.getElem_cons_succ]
        refine wpAnyH_take (i := 12) (v := ?_) rfl (by kernel_rfl) (by kernel_rfl) (by kernel_rfl) (fun _ _ _ h => h) (Or.inl ⟨by rfl, ?_⟩) (by assumption) ?_
        rotate_left 1
        · (intro w hSw; (try dsimp only at hSw); go_simp) <;> with_reducible rfl
        try simp only [Act.put, List.setIfInBounds_toArray, List.set_cons_zero, List.set_cons_succ, List.getElem_toArray, List.getElem_cons_zero, List.getElem_cons_succ]
        refine wpAnyH_take (i := 13) (v := ?_) rfl (by kernel_rfl) (by kernel_rfl) (by kernel_rfl) (fun _ _ _ h => h) (Or.inl ⟨by rfl, ?_⟩) (by assumption) ?_
        rotate_left 1
        · (intro w hSw; (try dsimp only at hSw); go_simp) <;> with_reducible rfl
        try simp only [Act.put, List.setIfInBounds_toArray, List.set_cons_zero, List.set_cons_succ, List.getElem_toArray, List.getElem_cons_zero, List.getElem_cons_succ]
        refine wpAnyH_take (i := 14) (v := ?_) rfl (by kernel_rfl) (by kernel_rfl) (by kernel_rfl) (fun _ _ _ h => h) (Or.inl ⟨by rfl, ?_⟩) (by assumption) ?_
        rotate_left 1
        · (intro w hSw; (try dsimp only at hSw); go_simp) <;> with_reducible rfl
        try simp only [Act.put, List.setIfInBounds_toArray, List.set_cons_zero, List.set_cons_succ, List.getElem_toArray, List.getElem_cons_zero, List.getElem_cons_succ]
        refine wpAnyH_take (i := 15) (v := ?_) rfl (by kernel_rfl) (by kernel_rfl) (by kernel_rfl) (fun _ _ _ h => h) (Or.inl ⟨by rfl, ?_⟩) (by assumption) ?_
        rotate_left 1
        · (intro w hSw; (try dsimp only at hSw); go_simp) <;> with_reducible rfl
        try simp only [Act.put, List.setIfInBounds_toArray, List.set_cons_zero, List.set_cons_succ, List.getElem_toArray, List.getElem_cons_zero, List.getElem_cons_succ]
        refine wpAnyH_take (i := 17) (v := ?_) rfl (by kernel_rfl) (by kernel_rfl) (by kernel_rfl) (fun _ _ _ h => h) (Or.inl ⟨by rfl, ?_⟩) (by assumption) ?_
        rotate_left 1
        · (intro w hSw; (try dsimp only at hSw); go_simp) <;> with_reducible rfl
        try simp only [Act.put, List.setIfInBounds_toArray, List.set_cons_zero, List.set_cons_succ, List.getElem_toArray, List.getElem_cons_zero, List.getElem_cons_succ]
        refine wpAnyH_take (i := 18) (v := ?_) rfl (by kernel_rfl) (by kernel_rfl) (by kernel_rfl) (fun _ _ _ h => h) (Or.inl ⟨by rfl, ?_⟩) (by assumption) ?_
        rotate_left 1
        · (intro w hSw; (try dsimp only at hSw); go_simp) <;> with_reducible rfl
        try simp only [Act.put, List.setIfInBounds_toArray, List.set_cons_zero, List.set_cons_succ, List.getElem_toArray, List.getElem_cons_zero, List.getElem_cons_succ]
        refine wpAnyH_take (i := 19) (v := ?_) rfl (by kernel_rfl) (by kernel_rfl) (by kernel_rfl) (fun _ _ _ h => h) (Or.inl ⟨by rfl, ?_⟩) (by assumption) ?_
        rotate_left 1
        · (intro w hSw; (try dsimp only at hSw); go_simp) <;> with_reducible rfl
        try simp only [Act.put, List.setIfInBounds_toArray, List.set_cons_zero, List.set_cons_succ, List.getElem_toArray, List.getElem_cons_zero, List.getElem_cons_succ]
        refine wpAnyH_take (i := 20) (v := ?_) rfl (by kernel_rfl) (by kernel_rfl) (by kernel_rfl) (fun _ _ _ h => h) (Or.inl ⟨by rfl, ?_⟩) (by assumption) ?_
        rotate_left 1
        · (intro w hSw; (try dsimp only at hSw); go_simp) <;> with_reducible rfl
        try simp only [Act.put, List.setIfInBounds_toArray, List.set_cons_zero, List.set_cons_succ, List.getElem_toArray, List.getElem_cons_zero, List.getElem_cons_succ]
        refine wpAnyH_ready (rs := [16]) (by kernel_rfl) (by simp) ?_
        refine (AllReadyH.cons rfl (fun K hK => ?_) AllReadyH.nil)
        go_simp
        (go_at_call 18; (with_reducible refine (find_any HI2.out.ch _).mono ?_); rintro e w3 ⟨rfl, hD3⟩; have ho3 := hD3.only (fun _ => False); have k3 := (HB2.out.only ho3 id).cell 1 _ rfl; have hs5 := (⟨⟨k3, OwnBytes.far hs2.2 ho3 (fun _ _ h => h)⟩, owns_only hu2 ho3 (fun _ _ => id)⟩ : (_ ∧ _) ∧ _); have HI3 := Lib.hid (HI2.out.far ho3 (fun _ h => h.elim)); clear ho3 hD3)
        go_wp2_with fail
        refine hK.out _ _ (hs5) (fun hHeld => ?_)
        clear hK K
        try simp only [Act.put, List.setIfInBounds_toArray, List.set_cons_zero, List.set_cons_succ, List.getElem_toArray, List.getElem_cons_zero, List.getElem_cons_succ]
        refine wpAnyH_ready (rs := [21]) (by kernel_rfl) (by simp) ?_
        refine (AllReadyH.cons rfl (fun K hK => ?_) AllReadyH.nil)
        go_simp
        (go_at_call 19; (with_reducible refine (rfind_any HI3.out.rc _).mono ?_); rintro e w4 ⟨rfl, rfl⟩)
        go_wp2_with fail
        refine hK.out _ _ (hs5) (fun hHeld => ?_)
        clear hK K
        try simp only [Act.put, List.setIfInBounds_toArray, List.set_cons_zero, List.set_cons_succ, List.getElem_toArray, List.getElem_cons_zero, List.getElem_cons_succ]
        refine wpAnyH_take (i := 22) (v := ?_) rfl (by kernel_rfl) (by kernel_rfl) (by kernel_rfl) (fun _ _ _ h => h) (Or.inl ⟨by rfl, ?_⟩) (by assumption) ?_
        rotate_left 1
        · (intro w hSw; (try dsimp only at hSw); go_simp) <;> with_reducible rfl
        try simp only [Act.put, List.setIfInBounds_toArray, List.set_cons_zero, List.set_cons_succ, List.getElem_toArray, List.getElem_cons_zero, List.getElem_cons_succ]
        refine wpAnyH_take (i := 23) (v := ?_) rfl (by kernel_rfl) (by kernel_rfl) (by kernel_rfl) (fun _ _ _ h => h) (Or.inl ⟨by rfl, ?_⟩) (by assumption) ?_
        rotate_left 1
        · (intro w hSw; (try dsimp only at hSw); go_simp) <;> with_reducible rfl
        try simp only [Act.put, List.setIfInBounds_toArray, List.set_cons_zero, List.set_cons_succ, List.getElem_toArray, List.getElem_cons_zero, List.getElem_cons_succ]
        refine wpAnyH_done (by kernel_rfl) ?_ _
        refine NoPanic.normal ?_
        clear hcv hcu hcv1 hcv2 hs1 hs2 hs3 hs5 hvt hu2 e2
        clear k0 k1 k2 k3
        go_wp2_with fail
        have hi2 := HI3.out
        obtain ⟨ao, cq, rfl, _, _, _, _⟩ := ownsRow_slice hi2.rc.own
        have r0 := hi2.rc.blk.cell 0 _ rfl
        have r3 := hi2.rc.blk.cell 3 _ rfl
        have r4 := hi2.rc.blk.cell 4 _ rfl
        have hm1 := hi2.rc.max
        have ew : IntKind.i64.wrap ((bound : Int) - (L.length : Int)) = (bound : Int) - L.length := IntWalk.i64_in _ (by omega)
        have HJ := Lib.hid hi2
        clear hi2
        go_quiet ((first
          | (go_at_call 20; refine (len_any (HJ.out.ch.drawn (Drawn.of w3 _))).mono ?_; rintro e w' ⟨rfl, rfl⟩; exact ⟨rfl, _, rfl⟩)
          | (go_at_call 22; refine (stopped_any (HJ.out.ch.drawn (Drawn.of w3 _))).mono ?_; rintro e w' ⟨rfl, rfl⟩; exact ⟨rfl, _, rfl⟩)
          | (go_at_call 21; refine (room_any (HJ.out.ch.drawn (Drawn.of w3 _))).mono ?_; rintro e w' ⟨rfl, hd⟩; exact ⟨rfl, (Drawn.of w3 _).trans hd⟩)))
        go_wp2_with fail
        go_roundw
        case rel => exact ⟨j + 1, _, _, _, _, _, _, by omega, by go_num, HJ.out.far ((Drawn.of w3 _).only (fun _ => False)) (fun _ h => h.elim)⟩
        case measure => simp [intOf]; omega
    · go_wp2_with (first
        | (go_at_call 10; (with_reducible refine (speaks_ok _).mono ?_); rintro e w5 ⟨rfl, hSp⟩; have HSP := Lib.hid hSp; clear hSp))
      go_ret
      exact ⟨rfl, below_only (HI.out.own.below (Nat.le_refl _) (fun _ h => h)) (Below.only HSP.out (fun _ => False)) HI.out.own.size (fun _ h => h.elim)⟩
end Go.Proofs.Ytpkaaadnolmidaa

