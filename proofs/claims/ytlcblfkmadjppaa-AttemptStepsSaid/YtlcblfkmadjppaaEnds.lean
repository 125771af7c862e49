/- AttemptEnds. -/
import Derived.Test.YtlcblfkmadjppaaLone
namespace Go.Proofs.Ytlcblfkmadjppaa
open Go.RowKit
set_option linter.unusedVariables false
set_option linter.unusedSimpArgs false

section
variable {F : Nat → Prop} {w : World} {lo p : Nat} {r : Rq} {o : List Ac}
theorem next_over (h : RQ F w lo p r o) (ho : r.over = true) : Calls Try.prog 19 #[.pointer (some ⟨p, 0, none⟩)] w fun e w' => e = .returned (.tuple #[.int .i64 0, .bool false]) ∧ w = w' := by
  have H := Lib.hid h
  have HO := Lib.hid ho
  clear h ho
  go_enter Try.func19, Try.ntmps19
  go_wp2_with (go_at_call 12; (with_reducible refine (over_any H.out).mono ?_); rintro e w' ⟨rfl, rfl⟩; rw [HO.out])
  go_ret2
  exact ⟨rfl, rfl⟩
theorem lq_next_over {w0 w : World} {q : Nat} {r : Rq} {K : Kept} (h : Lq w0 w q r K) (ho : r.over = true) : Calls Try.prog 19 #[.pointer (some ⟨q, 0, none⟩)] w fun e w' => e = .returned (.tuple #[.int .i64 0, .bool false]) ∧ w = w' := by
  obtain ⟨F, h1, _⟩ := h
  exact next_over h1 ho
end
/-- At its total it is over. -/
theorem ends_time {r : Rq} (hok : Okq r) (hs : r.since = 0) (x : Int) (hx : x = (r.pl.total : Int)) : (timeI r x true).2.2 = 0 ∧ (timeI r x true).1.over = true ∧ (timeI r x true).1.runs = [] ∧ (r.over = true → (timeI r x true).2.1.length = 0) ∧ (r.over = false → 0 < (timeI r x true).2.1.length) := by
  have hp := hok.p5
  have hm : isMoment x := by unfold isMoment; omega
  have ht : x.toNat = r.pl.total := by omega
  unfold timeI
  rw [if_neg (fun h => h hm), ht]
  cases ho : r.over with
  | true =>
    have e : timeR r r.pl.total true = (r, []) := by unfold timeR; rw [if_pos ho]
    rw [e]
    exact ⟨rfl, ho, hok.over_ ho, fun _ => rfl, fun h => by cases h⟩
  | false =>
    have e : timeR r r.pl.total true = (isOver r, cancels r.runs ++ [⟨4, -1, 504⟩]) := by
      unfold timeR
      rw [if_neg (by rw [ho]; decide), if_pos (by rw [hs]; unfold later; split <;> omega)]
      rfl
    rw [e]
    exact ⟨rfl, rfl, rfl, (fun h => by cases h), fun _ => by simp⟩

set_option maxRecDepth 100000 in
set_option maxHeartbeats 800000 in
theorem ends_walk (a b c d t : Int) (s : Bool) (a1 : Option Addr) (len1 cap1 : Nat) (w : World) (hs : Steps w a1 len1) :
    Calls Try.prog 7 #[plV a b c d t s, .slice a1 len1 cap1] w fun e w' => e = .returned (.bool true) ∧ Below w.heap.size w w' := by
  have hmax := hs.max
  have HS := Lib.hid hs
  clear hs
  go_enter Try.func7, Try.ntmps7
  go_upto_region 1 with fail
  have hbx : Blk (w.alloc (Obj.cells #[.int .i64 a, .int .i64 b, .int .i64 c, .int .i64 d, .int .i64 t, .bool s] 23)) w.heap.size [.int .i64 a, .int .i64 b, .int .i64 c, .int .i64 d, .int .i64 t, .bool s] 23 := Blk.new w [.int .i64 a, .int .i64 b, .int .i64 c, .int .i64 d, .int .i64 t, .bool s] 23
  have hbw : Below w.heap.size w (w.alloc (Obj.cells #[.int .i64 a, .int .i64 b, .int .i64 c, .int .i64 d, .int .i64 t, .bool s] 23)) := (Below.refl _ _).alloc (Nat.le_refl _) _
  obtain ⟨g, hg⟩ : ∃ g, g = w.heap.size := ⟨_, rfl⟩
  rw [← hg] at hbx ⊢
  have hgw : w.heap.size ≤ g := by omega
  generalize w.alloc (Obj.cells #[.int .i64 a, .int .i64 b, .int .i64 c, .int .i64 d, .int .i64 t, .bool s] 23) = w1 at hbx hbw ⊢
  have hk0 : ∀ x ∈ ([(g, [.int .i64 a, .int .i64 b, .int .i64 c, .int .i64 d, .int .i64 t, .bool s], 23)] : Kept), Blk w1 x.1 x.2.1 x.2.2 ∧ w.heap.size ≤ x.1 := fun x hx => by
    rw [List.mem_singleton.1 hx]
    exact ⟨hbx, hgw⟩
  have d0 := hbx.cell 0 _ rfl
  have d1 := hbx.cell 1 _ rfl
  have d2 := hbx.cell 2 _ rfl
  have d3 := hbx.cell 3 _ rfl
  have d4 := hbx.cell 4 _ rfl
  have d5 := hbx.cell 5 _ rfl
  have hgl := hbx.lt
  have HK0 := Lib.hid hk0
  have HW3 := Lib.hid hbw
  clear hbx hbw hg hk0
  by_cases hp : OkP a b c d t
  · have HP := Lib.hid hp
    clear hp
    go_upto_region 5 with (go_at_call 9; (with_reducible refine (law_begin (s := s) HP.out HW3.out HK0.out).mono ?_); rintro e w4 ⟨q, g0, cap0, C0, rfl, hc1, hc2, hL⟩; have HL := Lib.hid (hL.sub (K' := [(g, [.int .i64 a, .int .i64 b, .int .i64 c, .int .i64 d, .int .i64 t, .bool s], 23)]) (fun x hx => List.mem_cons_of_mem _ hx)); clear hL)
    clear d0 d1 d2 d3 d4 d5
    go_loopw [34] (fun i wr => ∃ (j : Nat) (r : Rq), j ≤ len1 ∧ i = .int .i64 j ∧ Lq w wr q r [(g, [.int .i64 a, .int .i64 b, .int .i64 c, .int .i64 d, .int .i64 t, .bool s], 23)] ∧ r.pl = mkPl a b c d t s ∧ r.since = 0) (fun i _ => len1 - (intOf i).toNat)
    case atStart => exact ⟨0, _, Nat.zero_le _, rfl, HL.out, rfl, rfl⟩
    case round =>
      obtain ⟨j, r, hj, rfl, hI, hpl, hsi⟩ := hrel
      have HSI := Lib.hid hsi
      have HI := Lib.hid hI
      have HPL := Lib.hid hpl
      clear hI hpl hsi
      have z33 := steps_zero33
      have z37 := zero37
      by_cases hlt : j < len1
      · obtain ⟨b1, off, rfl, hbl, hst⟩ := HS.out.at_ (by omega)
        obtain ⟨kd, nw, dd, wy, al, hc0, hc1', hc2', hc3, hc4⟩ := hst j hlt
        have hblk := HI.out.below.block b1 hbl
        have e0 := (World.cell?_of_block (a := ⟨b1, off + j * 5, none⟩) hblk).trans hc0
        have e1 := (World.cell?_of_block (a := ⟨b1, off + j * 5 + 1, none⟩) hblk).trans hc1'
        have e2 := (World.cell?_of_block (a := ⟨b1, off + j * 5 + 2, none⟩) hblk).trans hc2'
        have e3 := (World.cell?_of_block (a := ⟨b1, off + j * 5 + 3, none⟩) hblk).trans hc3
        have e4 := (World.cell?_of_block (a := ⟨b1, off + j * 5 + 4, none⟩) hblk).trans hc4
        clear hst hc0 hc1' hc2' hc3 hc4 hblk
        go_upto_region 7 with fail
        have hbn : Blk (wr.alloc (Obj.cells #[.int .i64 kd, .int .i64 nw, .int .i64 dd, .int .i64 wy, .bool al] 33)) wr.heap.size [.int .i64 kd, .int .i64 nw, .int .i64 dd, .int .i64 wy, .bool al] 33 := Blk.new wr [.int .i64 kd, .int .i64 nw, .int .i64 dd, .int .i64 wy, .bool al] 33
        have hL4 := HI.out.only ((Only.refl (fun _ => False) wr).alloc (Obj.cells #[.int .i64 kd, .int .i64 nw, .int .i64 dd, .int .i64 wy, .bool al] 33))
        obtain ⟨g4, hg4⟩ : ∃ g4, g4 = wr.heap.size := ⟨_, rfl⟩
        rw [← hg4] at hbn ⊢
        clear hg4
        generalize wr.alloc (Obj.cells #[.int .i64 kd, .int .i64 nw, .int .i64 dd, .int .i64 wy, .bool al] 33) = w5 at hbn hL4 ⊢
        have n0 := hbn.cell 0 _ rfl
        have n1 := hbn.cell 1 _ rfl
        have n2 := hbn.cell 2 _ rfl
        have n3 := hbn.cell 3 _ rfl
        have n4 := hbn.cell 4 _ rfl
        have hgl4 := hbn.lt
        have HL4 := Lib.hid hL4
        clear hbn hL4 e0 e1 e2 e3 e4
        have HPL2 := Lib.hid ((step_pl r kd nw dd wy al).1.trans HPL.out)
        have HSI2 := Lib.hid ((step_pl r kd nw dd wy al).2.trans HSI.out)
        go_wp2_with (go_at_call 11; (with_reducible refine (does_any HL4.out kd nw dd wy al).mono ?_); rintro e w6 ⟨v, rfl, hL6, hrow⟩; have HL6 := Lib.hid hL6; clear hL6 hrow)
        go_roundw
        case rel => exact ⟨j + 1, _, by omega, by go_num, HL6.out, HPL2.out, HSI2.out⟩
        case measure => simp [intOf]; omega
      · have hkb := HI.out.kept (List.mem_cons_self ..)
        have d4' := hkb.cell 4 _ rfl
        have hgl' := hkb.lt
        have htt : t = (r.pl.total : Int) := by rw [HPL.out]; have := HP.out.t1; show t = ((t.toNat : Nat) : Int); omega
        clear hkb
        cases hov : r.over with
        | true =>
          obtain ⟨ha1, ha2, ha3, ha4, ha5⟩ := ends_time HI.out.ok HSI.out t htt
          have hlen := ha4 hov
          have htm := lq_time HI.out t true
          rw [ha1] at htm
          obtain ⟨m, hm⟩ : ∃ m, m = (timeI r t true).2.1.length := ⟨_, rfl⟩
          rw [← hm] at hlen htm
          subst hlen
          have HTM := Lib.hid htm
          have HV := Lib.hid hov
          have HA2 := Lib.hid ha2
          have HA3 := Lib.hid ha3
          clear htm hov ha1 ha2 ha3 ha4 ha5 hm z33 z37 htt
          go_upto_region 11 with (first
            | (go_at_call 12; (with_reducible refine (lq_over HI.out).mono ?_); rintro e w' ⟨rfl, rfl⟩; rw [HV.out])
            | (go_at_call 22; (refine HTM.out.mono ?_); rintro e w6 ⟨v, rfl, hL6, hrow⟩; obtain ⟨ao, cp, rfl, hr1, hr2, _, _⟩ := ownsRow_slice hrow; have HL6 := Lib.hid hL6; have hr3 : cp ≤ 9223372036854775807 := (by unfold maxLen at hr2; omega); clear hL6 hrow hr2))
          clear d4'
          go_wp2_with (first
            | (go_at_call 12; (with_reducible refine (lq_over HL6.out).mono ?_); rintro e w' ⟨rfl, rfl⟩; rw [HA2.out])
            | (go_at_call 13; (with_reducible refine (lq_running HL6.out).mono ?_); rintro e w7 ⟨v7, rfl, hi7, hO7⟩; unfold Ints at hi7; rw [HA3.out] at hi7; obtain ⟨a7, c7, rfl, _, hc7, _, _⟩ := ownsRow_slice hi7; have HL7 := Lib.hid (HL6.out.only hO7); clear hi7 hO7)
            | (go_at_call 19; (with_reducible refine (lq_next_over HL7.out HA2.out).mono ?_); rintro e w' ⟨rfl, rfl⟩)
            | (go_at_call 10; (with_reducible refine (speaks_ok _).mono ?_); rintro e w8 ⟨rfl, hB⟩))
          go_ret
          exact ⟨rfl, HL7.out.below.trans (hB.mono HL7.out.size)⟩
        | false =>
          obtain ⟨ha1, ha2, ha3, ha4, ha5⟩ := ends_time HI.out.ok HSI.out t htt
          have hlen := ha5 hov
          have htm := lq_time HI.out t true
          rw [ha1] at htm
          obtain ⟨m, hm⟩ : ∃ m, m = (timeI r t true).2.1.length := ⟨_, rfl⟩
          rw [← hm] at hlen htm
          have fm : ((m : Int) == 0) = false := beq_eq_false_iff_ne.2 (by omega)
          have HTM := Lib.hid htm
          have HV := Lib.hid hov
          have HA2 := Lib.hid ha2
          have HA3 := Lib.hid ha3
          clear htm hov ha1 ha2 ha3 ha4 ha5 hm z33 z37 htt
          go_upto_region 11 with (first
            | (go_at_call 12; (with_reducible refine (lq_over HI.out).mono ?_); rintro e w' ⟨rfl, rfl⟩; rw [HV.out])
            | (go_at_call 22; (refine HTM.out.mono ?_); rintro e w6 ⟨v, rfl, hL6, hrow⟩; obtain ⟨ao, cp, rfl, hr1, hr2, _, _⟩ := ownsRow_slice hrow; have HL6 := Lib.hid hL6; have hr3 : cp ≤ 9223372036854775807 := (by unfold maxLen at hr2; omega); clear hL6 hrow hr2))
          clear d4'
          go_wp2_with (first
            | (go_at_call 12; (with_reducible refine (lq_over HL6.out).mono ?_); rintro e w' ⟨rfl, rfl⟩; rw [HA2.out])
            | (go_at_call 13; (with_reducible refine (lq_running HL6.out).mono ?_); rintro e w7 ⟨v7, rfl, hi7, hO7⟩; unfold Ints at hi7; rw [HA3.out] at hi7; obtain ⟨a7, c7, rfl, _, hc7, _, _⟩ := ownsRow_slice hi7; have HL7 := Lib.hid (HL6.out.only hO7); clear hi7 hO7)
            | (go_at_call 19; (with_reducible refine (lq_next_over HL7.out HA2.out).mono ?_); rintro e w' ⟨rfl, rfl⟩)
            | (go_at_call 10; (with_reducible refine (speaks_ok _).mono ?_); rintro e w8 ⟨rfl, hB⟩))
          go_ret
          exact ⟨rfl, HL7.out.below.trans (hB.mono HL7.out.size)⟩
  · have HP := Lib.hid hp
    clear hp
    go_wp2_with (first
      | (go_at_call 9; (with_reducible refine (law_begin_bad (s := s) HP.out _).mono ?_); rintro e w4 ⟨rfl, hO⟩; have HO := Lib.hid hO; clear hO)
      | (go_at_call 10; (with_reducible refine (speaks_ok _).mono ?_); rintro e w8 ⟨rfl, hB⟩))
    go_ret
    have hb4 := below_only HW3.out HO.out HW3.out.size (fun _ h => h.elim)
    exact ⟨rfl, hb4.trans (hB.mono hb4.size)⟩
end Go.Proofs.Ytlcblfkmadjppaa
