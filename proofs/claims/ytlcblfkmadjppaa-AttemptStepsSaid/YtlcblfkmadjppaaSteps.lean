/- AttemptSteps. -/
import Derived.Test.YtlcblfkmadjppaaBoth
namespace Go.Proofs.Ytlcblfkmadjppaa
open Go.RowKit
set_option linter.unusedVariables false
set_option linter.unusedSimpArgs false

theorem actRow_nil (w : World) : ActRow w (.slice none 0 0) [] := actRow_of (World.ownsRow_nil w 0 37 3)
section
variable {a b c d t : Int} {s : Bool}
theorem mkPl_ints (h : OkP a b c d t) : ((mkPl a b c d t s).retries : Int) = a ∧ ((mkPl a b c d t s).hedges : Int) = b ∧ ((mkPl a b c d t s).after : Int) = c ∧ ((mkPl a b c d t s).per : Int) = d ∧ ((mkPl a b c d t s).total : Int) = t ∧ (mkPl a b c d t s).safe = s := by
  obtain ⟨h1, h2, h3, h4, h5⟩ := h
  unfold mkPl
  exact ⟨Int.toNat_of_nonneg h1.1, Int.toNat_of_nonneg h2.1, Int.toNat_of_nonneg (by omega), Int.toNat_of_nonneg (by omega), Int.toNat_of_nonneg (by omega), rfl⟩
theorem begins (h : OkP a b c d t) (n : Nat) (hn : n ≤ 4611686018427387904) (w : World) :
    Calls Try.prog 9 #[plV a b c d t s, .int .i64 n] w fun e w' => ∃ q v, e = .returned (.tuple #[.pointer (some ⟨q, 0, none⟩), v, .int .i64 0]) ∧ Begun w w' q (begunRq (mkPl a b c d t s) n) v := by
  have hg := begin_ok (mkPl a b c d t s) (h.pl s) n hn w
  obtain ⟨e1, e2, e3, e4, e5, e6⟩ := mkPl_ints (s := s) h
  rw [e1, e2, e3, e4, e5, e6] at hg
  exact hg
theorem gbegins (h : OkP a b c d t) (n : Nat) (hn : n ≤ 4611686018427387904) (w : World) :
    Calls Try.prog 14 #[.int .i64 a, .int .i64 b, .int .i64 c, .int .i64 d, .int .i64 t, .bool s, .int .i64 n] w fun e w' => ∃ p v, e = .returned (.tuple #[.pointer (some ⟨p, 0, none⟩), v, .int .i64 0]) ∧ GTold (fun _ => False) w w' w.heap.size p (begunRq (mkPl a b c d t s) n) v [⟨1, 0, 0⟩] := by
  have hg := gbegin_ok (mkPl a b c d t s) (h.pl s) n hn w
  obtain ⟨e1, e2, e3, e4, e5, e6⟩ := mkPl_ints (s := s) h
  rw [e1, e2, e3, e4, e5, e6] at hg
  exact hg
end

set_option maxRecDepth 100000 in
set_option maxHeartbeats 3200000 in
theorem steps_walk (a b c d t : Int) (s : Bool) (a1 : Option Addr) (len1 cap1 : Nat) (w : World) (hs : Steps w a1 len1) :
    Calls Try.prog 6 #[plV a b c d t s, .slice a1 len1 cap1] w fun e w' => e = .returned (.bool true) ∧ Below w.heap.size w w' := by
  have hmax := hs.max
  have HS := Lib.hid hs
  clear hs
  go_enter Try.func6, Try.ntmps6
  go_upto_region 1 with fail
  have hbx : Blk (w.alloc (Obj.cells #[.int .i64 a, .int .i64 b, .int .i64 c, .int .i64 d, .int .i64 t, .bool s] 23)) w.heap.size [.int .i64 a, .int .i64 b, .int .i64 c, .int .i64 d, .int .i64 t, .bool s] 23 := Blk.new w [.int .i64 a, .int .i64 b, .int .i64 c, .int .i64 d, .int .i64 t, .bool s] 23
  have hbw : Below w.heap.size w (w.alloc (Obj.cells #[.int .i64 a, .int .i64 b, .int .i64 c, .int .i64 d, .int .i64 t, .bool s] 23)) := (Below.refl _ _).alloc (Nat.le_refl _) _
  obtain ⟨g, hg⟩ : ∃ g, g = w.heap.size := ⟨_, rfl⟩
  rw [← hg] at hbx ⊢
  generalize w.alloc (Obj.cells #[.int .i64 a, .int .i64 b, .int .i64 c, .int .i64 d, .int .i64 t, .bool s] 23) = w1 at hbx hbw ⊢
  have d0 := hbx.cell 0 _ rfl
  have d1 := hbx.cell 1 _ rfl
  have d2 := hbx.cell 2 _ rfl
  have d3 := hbx.cell 3 _ rfl
  have d4 := hbx.cell 4 _ rfl
  have d5 := hbx.cell 5 _ rfl
  have hgl := hbx.lt
  have HW1 := Lib.hid hbw
  have HBX := Lib.hid hbx
  clear hbx hbw hg
  rcases Nat.eq_zero_or_pos len1 with hz | hp0
  · subst hz
    go_upto_region 4 with fail
    by_cases hp : OkP a b c d t
    · have HP := Lib.hid hp
      clear hp
      have hb0 : ∀ w, Calls Try.prog 9 #[plV a b c d t s, .int .i64 0] w fun e w' => ∃ q v, e = .returned (.tuple #[.pointer (some ⟨q, 0, none⟩), v, .int .i64 0]) ∧ Begun w w' q (begunRq (mkPl a b c d t s) 0) v := fun w => begins HP.out 0 (by decide) w
      have hg0 : ∀ w, Calls Try.prog 14 #[.int .i64 a, .int .i64 b, .int .i64 c, .int .i64 d, .int .i64 t, .bool s, .int .i64 0] w fun e w' => ∃ p v, e = .returned (.tuple #[.pointer (some ⟨p, 0, none⟩), v, .int .i64 0]) ∧ GTold (fun _ => False) w w' w.heap.size p (begunRq (mkPl a b c d t s) 0) v [⟨1, 0, 0⟩] := fun w => gbegins HP.out 0 (by decide) w
      have HB0 := Lib.hid hb0
      have HG0 := Lib.hid hg0
      clear hb0 hg0
      go_upto_region 5 with (go_at_call 9; (with_reducible refine (HB0.out _).mono ?_); rintro e w2 ⟨q, v, rfl, hB⟩; have hb2 := HBX.out.below hB.below HBX.out.lt; obtain ⟨ao, cp, rfl, ha1, ha2, _, _⟩ := ownsRow_slice hB.row; have HB := Lib.hid hB; clear hB)
      have d0 := hb2.cell 0 _ rfl
      have d1 := hb2.cell 1 _ rfl
      have d2 := hb2.cell 2 _ rfl
      have d3 := hb2.cell 3 _ rfl
      have d4 := hb2.cell 4 _ rfl
      have d5 := hb2.cell 5 _ rfl
      have hgl := hb2.lt
      clear hb2
      go_upto_region 6 with (go_at_call 14; (with_reducible refine (HG0.out _).mono ?_); rintro e w3 ⟨p, v2, rfl, hG⟩; obtain ⟨hL, hr1, hr2⟩ := dl_begun HW1.out HB.out hG (okq_begun (HP.out.pl s) (by decide)) (okq_begun (HP.out.pl s) (by decide)); obtain ⟨ao2, cp2, rfl, ha3, ha4, _, _⟩ := ownsRow_slice hr2; have HL := Lib.hid hL; have HR1 := Lib.hid (actRow_of (l := [⟨1, 0, 0⟩]) hr1); have HR2 := Lib.hid (actRow_of (l := [⟨1, 0, 0⟩]) hr2); clear hL hG hr1 hr2)
      clear d0 d1 d2 d3 d4 d5 hgl
      go_upto_region 11 with (go_at_call 15; (with_reducible refine (acts_same HR1.out HR2.out).mono ?_); rintro e w4 ⟨rfl, hO⟩; have HL2 := Lib.hid (HL.out.only hO); clear hO)
      go_loop [75] (fun i => i = .int .i64 0) (fun _ => 0)
      case atStart => rfl
      case round =>
        subst hrel
        go_wp2_with (go_at_call 10; (with_reducible refine (speaks_ok _).mono ?_); rintro e w8 ⟨rfl, hB⟩)
        go_ret
        exact ⟨rfl, HL2.out.below.trans (hB.mono HL2.out.size)⟩
    · have hbad : ¬ (0 ≤ a ∧ a ≤ 5 ∧ 0 ≤ b ∧ b ≤ 3 ∧ (1 ≤ c ∧ c ≤ 1000000) ∧ (1 ≤ d ∧ d ≤ 1000000) ∧ (1 ≤ t ∧ t ≤ 1000000) ∧ isMoment 0) := fun hh => hp ⟨⟨hh.1, hh.2.1⟩, ⟨hh.2.2.1, hh.2.2.2.1⟩, hh.2.2.2.2.1, hh.2.2.2.2.2.1, hh.2.2.2.2.2.2.1⟩
      have HBAD := Lib.hid hbad
      clear hbad hp
      go_wp2_with (first
        | (go_at_call 9; (with_reducible refine (begin_bad a b c d t s 0 HBAD.out _).mono ?_); rintro e w2 ⟨rfl, hO⟩; have hb2 := HBX.out.only hO (fun h => h); have HO := Lib.hid hO; have d0 := hb2.cell 0 _ rfl; have d1 := hb2.cell 1 _ rfl; have d2 := hb2.cell 2 _ rfl; have d3 := hb2.cell 3 _ rfl; have d4 := hb2.cell 4 _ rfl; have d5 := hb2.cell 5 _ rfl; have hgl := hb2.lt; clear hb2 hO)
        | (go_at_call 14; (with_reducible refine (gbegin_bad a b c d t s 0 HBAD.out _).mono ?_); rintro e w3 ⟨rfl, rfl⟩)
        | (go_at_call 15; (with_reducible refine (acts_same (actRow_nil _) (actRow_nil _)).mono ?_); rintro e w4 ⟨rfl, hO4⟩; have HO4 := Lib.hid hO4; clear hO4)
        | (go_at_call 10; (with_reducible refine (speaks_ok _).mono ?_); rintro e w8 ⟨rfl, hB⟩))
      go_ret
      have hb4 := below_only HW1.out (HO.out.trans HO4.out (fun _ _ h => h)) HW1.out.size (fun _ h => h.elim)
      exact ⟨rfl, hb4.trans (hB.mono hb4.size)⟩
  · obtain ⟨b1, off, rfl, hbl, hst⟩ := HS.out.at_ hp0
    have f0 : decide (0 < len1) = true := decide_eq_true hp0
    have f0i : decide ((0 : Int) < (len1 : Int)) = true := decide_eq_true (by omega)
    obtain ⟨kd0, nw0, dd0, wy0, al0, hc0, hc1, hc2, hc3, hc4⟩ := hst 0 hp0
    have e1 : w1.cell? ⟨b1, off + 1, none⟩ = some (.int .i64 nw0) := (World.cell?_of_block (a := ⟨b1, off + 1, none⟩) (HW1.out.block b1 hbl)).trans (by rw [Nat.zero_mul, Nat.add_zero] at hc1; exact hc1)
    have hbl1 : b1 < w1.heap.size := by have := HW1.out.size; omega
    clear hst hc0 hc1 hc2 hc3 hc4
    go_upto_region 4 with fail
    clear e1
    by_cases hp : OkP a b c d t ∧ isMoment nw0
    · obtain ⟨hp, hm0, hm1⟩ := hp
      obtain ⟨n, rfl⟩ : ∃ n : Nat, nw0 = n := ⟨nw0.toNat, by omega⟩
      have hn : n ≤ 4611686018427387904 := by omega
      have HP := Lib.hid hp
      clear hp hm0 hm1
      go_upto_region 5 with (go_at_call 9; (with_reducible refine (begins HP.out n hn _).mono ?_); rintro e w2 ⟨q, v, rfl, hB⟩; have hb2 := HBX.out.below hB.below HBX.out.lt; obtain ⟨ao, cp, rfl, ha1, ha2, _, _⟩ := ownsRow_slice hB.row; have HB := Lib.hid hB; clear hB)
      have d0 := hb2.cell 0 _ rfl
      have d1 := hb2.cell 1 _ rfl
      have d2 := hb2.cell 2 _ rfl
      have d3 := hb2.cell 3 _ rfl
      have d4 := hb2.cell 4 _ rfl
      have d5 := hb2.cell 5 _ rfl
      have hgl := hb2.lt
      clear hb2
      go_upto_region 6 with (go_at_call 14; (with_reducible refine (gbegins HP.out n hn _).mono ?_); rintro e w3 ⟨p, v2, rfl, hG⟩; obtain ⟨hL, hr1, hr2⟩ := dl_begun HW1.out HB.out hG (okq_begun (HP.out.pl s) hn) (okq_begun (HP.out.pl s) hn); obtain ⟨ao2, cp2, rfl, ha3, ha4, _, _⟩ := ownsRow_slice hr2; have HL := Lib.hid hL; have HR1 := Lib.hid (actRow_of (l := [⟨1, 0, 0⟩]) hr1); have HR2 := Lib.hid (actRow_of (l := [⟨1, 0, 0⟩]) hr2); clear hL hG hr1 hr2)
      clear d0 d1 d2 d3 d4 d5 hgl
      go_upto_region 11 with (go_at_call 15; (with_reducible refine (acts_same HR1.out HR2.out).mono ?_); rintro e w4 ⟨rfl, hO⟩; have HL2 := Lib.hid (HL.out.only hO); clear hO)
      go_loopw [75] (fun i wr => ∃ (j : Nat) (r : Rq), j ≤ len1 ∧ i = .int .i64 j ∧ DL w wr q p r r (fun _ => False)) (fun i _ => len1 - (intOf i).toNat)
      case atStart => exact ⟨0, _, Nat.zero_le _, rfl, HL2.out⟩
      case round =>
        obtain ⟨j, r, hj, rfl, hI⟩ := hrel
        have HI := Lib.hid hI
        clear hI
        have z33 := steps_zero33
        by_cases hlt : j < len1
        · obtain ⟨b1', off', hbe, hbl, hst⟩ := HS.out.at_ (by omega)
          injection hbe with hbe
          injection hbe with hb1 hb2
          subst hb1 hb2
          obtain ⟨kd, nw, dd, wy, al, hc0, hc1', hc2', hc3, hc4⟩ := hst j hlt
          have hblk := HI.out.below.block b1 hbl
          have e0 := (World.cell?_of_block (a := ⟨b1, off + j * 5, none⟩) hblk).trans hc0
          have e1 := (World.cell?_of_block (a := ⟨b1, off + j * 5 + 1, none⟩) hblk).trans hc1'
          have e2 := (World.cell?_of_block (a := ⟨b1, off + j * 5 + 2, none⟩) hblk).trans hc2'
          have e3 := (World.cell?_of_block (a := ⟨b1, off + j * 5 + 3, none⟩) hblk).trans hc3
          have e4 := (World.cell?_of_block (a := ⟨b1, off + j * 5 + 4, none⟩) hblk).trans hc4
          clear hst hc0 hc1' hc2' hc3 hc4 hblk
          go_upto_region 13 with fail
          have hbn : Blk (wr.alloc (Obj.cells #[.int .i64 kd, .int .i64 nw, .int .i64 dd, .int .i64 wy, .bool al] 33)) wr.heap.size [.int .i64 kd, .int .i64 nw, .int .i64 dd, .int .i64 wy, .bool al] 33 := Blk.new wr [.int .i64 kd, .int .i64 nw, .int .i64 dd, .int .i64 wy, .bool al] 33
          have hL4' := HI.out.new_ (Obj.cells #[.int .i64 kd, .int .i64 nw, .int .i64 dd, .int .i64 wy, .bool al] 33)
          obtain ⟨g4, hg4⟩ : ∃ g4, g4 = wr.heap.size := ⟨_, rfl⟩
          rw [← hg4] at hbn hL4' ⊢
          clear hg4
          generalize wr.alloc (Obj.cells #[.int .i64 kd, .int .i64 nw, .int .i64 dd, .int .i64 wy, .bool al] 33) = w5 at hbn hL4' ⊢
          have n0 := hbn.cell 0 _ rfl
          have n1 := hbn.cell 1 _ rfl
          have n2 := hbn.cell 2 _ rfl
          have n3 := hbn.cell 3 _ rfl
          have n4 := hbn.cell 4 _ rfl
          have hgl4 := hbn.lt
          have HBN := Lib.hid hbn
          have HL4 := Lib.hid (hL4'.sub (A' := fun k => k = g4) (fun k hk => .inr hk))
          clear hbn hL4' e0 e1 e2 e3 e4
          obtain ⟨st, hst⟩ : ∃ st, st = stepI r kd nw dd wy al := ⟨_, rfl⟩
          have hdo := dl_does HL4.out kd nw dd wy al
          rw [← hst] at hdo
          have HDO := Lib.hid hdo
          have HST := Lib.hid hst
          clear hdo hst
          obtain ⟨r3, l3, x3⟩ := st
          simp only at HDO
          go_upto_region 16 with (go_at_call 11; (refine HDO.out.mono ?_); rintro e w6 ⟨v, rfl, hL6, hrow6, hO6⟩; have hb6 := HBN.out.only hO6 (fun h => h rfl); obtain ⟨ao6, cp6, rfl, ha5, ha6, _, _⟩ := ownsRow_slice hrow6; have HL6 := Lib.hid hL6; have HROW6 := Lib.hid hrow6; clear hL6 hrow6 hO6)
          clear n0 n1 n2 n3 n4 hgl4
          have n0 := hb6.cell 0 _ rfl
          have n1 := hb6.cell 1 _ rfl
          have n2 := hb6.cell 2 _ rfl
          have n3 := hb6.cell 3 _ rfl
          have n4 := hb6.cell 4 _ rfl
          have hgl4 := hb6.lt
          clear hb6
          obtain ⟨m, b0, hnx⟩ := nextIs_ex r3
          have HNX := Lib.hid hnx
          clear hnx
          rcases (show kd = 0 ∨ kd = 1 ∨ (kd ≠ 0 ∧ kd ≠ 1) by omega) with rfl | rfl | ⟨hk0, hk1⟩
          · have hr := dl_gfail HL6.out nw dd wy al
            rw [show failI r nw dd wy al = (r3, l3, x3) by rw [HST.out]; unfold stepI; rw [if_pos rfl]] at hr
            have HR := Lib.hid hr
            clear hr
            go_upto_region 22 with (go_at_call 16; (refine HR.out.mono ?_); rintro e w7 ⟨v, rfl, hL7, hrow7, hO7⟩; have hrow6 := owns_only HROW6.out hO7 (fun k hk hn => hn (.inr hk)); obtain ⟨ao7, cp7, rfl, ha7, ha8, _, _⟩ := ownsRow_slice hrow7; have HL7 := Lib.hid hL7; have HA1 := Lib.hid (actRow_of hrow6); have HA2 := Lib.hid (actRow_of hrow7); clear hL7 hrow7 hO7 hrow6)
            clear n0 n1 n2 n3 n4 hgl4
            go_upto_region 24 with (first
              | (go_at_call 19; (refine (dl_next HL7.out HNX.out).mono ?_); rintro e w8 ⟨rfl, hO⟩; have HL8 := Lib.hid (HL7.out.only hO); have HB1 := Lib.hid (HA1.out.only hO); have HB2 := Lib.hid (HA2.out.only hO); clear hO)
              | (go_at_call 20; (refine (dl_gnext HL8.out HNX.out).mono ?_); rintro e w9 ⟨rfl, hO⟩; have HL9 := Lib.hid (HL8.out.only hO); have HC1 := Lib.hid (HB1.out.only hO); have HC2 := Lib.hid (HB2.out.only hO); clear hO))
            obtain ⟨hpl, c13, u, c11, hir⟩ := HL9.out.gcells
            obtain ⟨au, cu, rfl, hcu1, hcu2, -⟩ := id hir
            have HIR := Lib.hid hir
            have HPL := Lib.hid hpl
            clear hir
            have k0 : (w9.drew.cell? ⟨p, 13, none⟩ = some (.bool r3.over)) ∧ (w9.drew.cell? ⟨p, 11, none⟩ = some (.slice au (idsOf r3.runs).length cu)) := ⟨c13, c11⟩
            have HLD := Lib.hid (HL9.out.only ((Only.refl _ _).drew))
            have HCD1 := Lib.hid (HC1.out.only ((Only.refl _ _).drew))
            have HCD2 := Lib.hid (HC2.out.only ((Only.refl _ _).drew))
            have HIRD := Lib.hid (HIR.out.only ((Only.refl _ _).drew))
            go_region_held3 (fun w' => (w'.cell? ⟨p, 13, none⟩ = some (.bool r3.over)) ∧ (w'.cell? ⟨p, 11, none⟩ = some (.slice au (idsOf r3.runs).length cu)))
              (first | exact k0 | exact k1 | exact k2 | exact k3)
              (first
                | (go_at_call 15; (with_reducible refine (acts_same HCD1.out HCD2.out).mono ?_); rintro e w10 ⟨rfl, hO⟩; have HL10 := Lib.hid (HLD.out.only hO); have HIR10 := Lib.hid (HIRD.out.only hO); have k1 := And.intro ((World.cell?_of_block (a := ⟨p, 13, none⟩) (hO.block p HPL.out (fun h => h))).trans k0.1) ((World.cell?_of_block (a := ⟨p, 11, none⟩) (hO.block p HPL.out (fun h => h))).trans k0.2); have HPL10 := Lib.hid (Nat.lt_of_lt_of_le HPL.out hO.size); clear hO)
                | (go_at_call 12; (with_reducible refine (dl_over HL10.out).mono ?_); rintro e w' ⟨rfl, rfl⟩)
                | (go_at_call 13; (with_reducible refine (dl_running HL10.out).mono ?_); rintro e w11 ⟨v, rfl, hir1, hO⟩; obtain ⟨av, cv, rfl, hcv1, hcv2, -⟩ := id hir1; have HIR1 := Lib.hid hir1; have HIR11 := Lib.hid (HIR10.out.only hO); have HL11 := Lib.hid (HL10.out.only hO); have k2 := And.intro ((World.cell?_of_block (a := ⟨p, 13, none⟩) (hO.block p HPL10.out (fun h => h))).trans k1.1) ((World.cell?_of_block (a := ⟨p, 11, none⟩) (hO.block p HPL10.out (fun h => h))).trans k1.2); have HPL11 := Lib.hid (Nat.lt_of_lt_of_le HPL10.out hO.size); clear hir1 hO)
                | (go_at_call 21; (with_reducible refine (ints_same HIR1.out HIR11.out).mono ?_); rintro e w12 ⟨rfl, hO⟩; have HL12 := Lib.hid (HL11.out.only hO); have k3 := And.intro ((World.cell?_of_block (a := ⟨p, 13, none⟩) (hO.block p HPL11.out (fun h => h))).trans k2.1) ((World.cell?_of_block (a := ⟨p, 11, none⟩) (hO.block p HPL11.out (fun h => h))).trans k2.2); clear hO))
            clear k0 k1 k2 k3
            go_wp2_with fail
            go_roundw
            case rel => exact ⟨j + 1, r3, by omega, by go_num, HL12.out.sub (fun k hk => hk.elim)⟩
            case measure => simp [intOf]; omega
          · have hr := dl_ghead HL6.out nw dd wy al
            rw [show headI r nw dd wy al = (r3, l3, x3) by rw [HST.out]; unfold stepI; rw [if_neg (by decide), if_pos rfl]] at hr
            have HR := Lib.hid hr
            clear hr
            go_upto_region 22 with (go_at_call 17; (refine HR.out.mono ?_); rintro e w7 ⟨v, rfl, hL7, hrow7, hO7⟩; have hrow6 := owns_only HROW6.out hO7 (fun k hk hn => hn (.inr hk)); obtain ⟨ao7, cp7, rfl, ha7, ha8, _, _⟩ := ownsRow_slice hrow7; have HL7 := Lib.hid hL7; have HA1 := Lib.hid (actRow_of hrow6); have HA2 := Lib.hid (actRow_of hrow7); clear hL7 hrow7 hO7 hrow6)
            clear n0 n1 n2 n3 n4 hgl4
            go_upto_region 24 with (first
              | (go_at_call 19; (refine (dl_next HL7.out HNX.out).mono ?_); rintro e w8 ⟨rfl, hO⟩; have HL8 := Lib.hid (HL7.out.only hO); have HB1 := Lib.hid (HA1.out.only hO); have HB2 := Lib.hid (HA2.out.only hO); clear hO)
              | (go_at_call 20; (refine (dl_gnext HL8.out HNX.out).mono ?_); rintro e w9 ⟨rfl, hO⟩; have HL9 := Lib.hid (HL8.out.only hO); have HC1 := Lib.hid (HB1.out.only hO); have HC2 := Lib.hid (HB2.out.only hO); clear hO))
            obtain ⟨hpl, c13, u, c11, hir⟩ := HL9.out.gcells
            obtain ⟨au, cu, rfl, hcu1, hcu2, -⟩ := id hir
            have HIR := Lib.hid hir
            have HPL := Lib.hid hpl
            clear hir
            have k0 : (w9.drew.cell? ⟨p, 13, none⟩ = some (.bool r3.over)) ∧ (w9.drew.cell? ⟨p, 11, none⟩ = some (.slice au (idsOf r3.runs).length cu)) := ⟨c13, c11⟩
            have HLD := Lib.hid (HL9.out.only ((Only.refl _ _).drew))
            have HCD1 := Lib.hid (HC1.out.only ((Only.refl _ _).drew))
            have HCD2 := Lib.hid (HC2.out.only ((Only.refl _ _).drew))
            have HIRD := Lib.hid (HIR.out.only ((Only.refl _ _).drew))
            go_region_held3 (fun w' => (w'.cell? ⟨p, 13, none⟩ = some (.bool r3.over)) ∧ (w'.cell? ⟨p, 11, none⟩ = some (.slice au (idsOf r3.runs).length cu)))
              (first | exact k0 | exact k1 | exact k2 | exact k3)
              (first
                | (go_at_call 15; (with_reducible refine (acts_same HCD1.out HCD2.out).mono ?_); rintro e w10 ⟨rfl, hO⟩; have HL10 := Lib.hid (HLD.out.only hO); have HIR10 := Lib.hid (HIRD.out.only hO); have k1 := And.intro ((World.cell?_of_block (a := ⟨p, 13, none⟩) (hO.block p HPL.out (fun h => h))).trans k0.1) ((World.cell?_of_block (a := ⟨p, 11, none⟩) (hO.block p HPL.out (fun h => h))).trans k0.2); have HPL10 := Lib.hid (Nat.lt_of_lt_of_le HPL.out hO.size); clear hO)
                | (go_at_call 12; (with_reducible refine (dl_over HL10.out).mono ?_); rintro e w' ⟨rfl, rfl⟩)
                | (go_at_call 13; (with_reducible refine (dl_running HL10.out).mono ?_); rintro e w11 ⟨v, rfl, hir1, hO⟩; obtain ⟨av, cv, rfl, hcv1, hcv2, -⟩ := id hir1; have HIR1 := Lib.hid hir1; have HIR11 := Lib.hid (HIR10.out.only hO); have HL11 := Lib.hid (HL10.out.only hO); have k2 := And.intro ((World.cell?_of_block (a := ⟨p, 13, none⟩) (hO.block p HPL10.out (fun h => h))).trans k1.1) ((World.cell?_of_block (a := ⟨p, 11, none⟩) (hO.block p HPL10.out (fun h => h))).trans k1.2); have HPL11 := Lib.hid (Nat.lt_of_lt_of_le HPL10.out hO.size); clear hir1 hO)
                | (go_at_call 21; (with_reducible refine (ints_same HIR1.out HIR11.out).mono ?_); rintro e w12 ⟨rfl, hO⟩; have HL12 := Lib.hid (HL11.out.only hO); have k3 := And.intro ((World.cell?_of_block (a := ⟨p, 13, none⟩) (hO.block p HPL11.out (fun h => h))).trans k2.1) ((World.cell?_of_block (a := ⟨p, 11, none⟩) (hO.block p HPL11.out (fun h => h))).trans k2.2); clear hO))
            clear k0 k1 k2 k3
            go_wp2_with fail
            go_roundw
            case rel => exact ⟨j + 1, r3, by omega, by go_num, HL12.out.sub (fun k hk => hk.elim)⟩
            case measure => simp [intOf]; omega
          · have hr := dl_gtime HL6.out nw al
            rw [show timeI r nw al = (r3, l3, x3) by rw [HST.out]; unfold stepI; rw [if_neg hk0, if_neg hk1]] at hr
            have f0 : (kd == 0) = false := beq_eq_false_iff_ne.2 hk0
            have f1 : (kd == 1) = false := beq_eq_false_iff_ne.2 hk1
            have HR := Lib.hid hr
            clear hr hk0 hk1
            go_upto_region 22 with (go_at_call 18; (refine HR.out.mono ?_); rintro e w7 ⟨v, rfl, hL7, hrow7, hO7⟩; have hrow6 := owns_only HROW6.out hO7 (fun k hk hn => hn (.inr hk)); obtain ⟨ao7, cp7, rfl, ha7, ha8, _, _⟩ := ownsRow_slice hrow7; have HL7 := Lib.hid hL7; have HA1 := Lib.hid (actRow_of hrow6); have HA2 := Lib.hid (actRow_of hrow7); clear hL7 hrow7 hO7 hrow6)
            clear n0 n1 n2 n3 n4 hgl4
            go_upto_region 24 with (first
              | (go_at_call 19; (refine (dl_next HL7.out HNX.out).mono ?_); rintro e w8 ⟨rfl, hO⟩; have HL8 := Lib.hid (HL7.out.only hO); have HB1 := Lib.hid (HA1.out.only hO); have HB2 := Lib.hid (HA2.out.only hO); clear hO)
              | (go_at_call 20; (refine (dl_gnext HL8.out HNX.out).mono ?_); rintro e w9 ⟨rfl, hO⟩; have HL9 := Lib.hid (HL8.out.only hO); have HC1 := Lib.hid (HB1.out.only hO); have HC2 := Lib.hid (HB2.out.only hO); clear hO))
            obtain ⟨hpl, c13, u, c11, hir⟩ := HL9.out.gcells
            obtain ⟨au, cu, rfl, hcu1, hcu2, -⟩ := id hir
            have HIR := Lib.hid hir
            have HPL := Lib.hid hpl
            clear hir
            have k0 : (w9.drew.cell? ⟨p, 13, none⟩ = some (.bool r3.over)) ∧ (w9.drew.cell? ⟨p, 11, none⟩ = some (.slice au (idsOf r3.runs).length cu)) := ⟨c13, c11⟩
            have HLD := Lib.hid (HL9.out.only ((Only.refl _ _).drew))
            have HCD1 := Lib.hid (HC1.out.only ((Only.refl _ _).drew))
            have HCD2 := Lib.hid (HC2.out.only ((Only.refl _ _).drew))
            have HIRD := Lib.hid (HIR.out.only ((Only.refl _ _).drew))
            go_region_held3 (fun w' => (w'.cell? ⟨p, 13, none⟩ = some (.bool r3.over)) ∧ (w'.cell? ⟨p, 11, none⟩ = some (.slice au (idsOf r3.runs).length cu)))
              (first | exact k0 | exact k1 | exact k2 | exact k3)
              (first
                | (go_at_call 15; (with_reducible refine (acts_same HCD1.out HCD2.out).mono ?_); rintro e w10 ⟨rfl, hO⟩; have HL10 := Lib.hid (HLD.out.only hO); have HIR10 := Lib.hid (HIRD.out.only hO); have k1 := And.intro ((World.cell?_of_block (a := ⟨p, 13, none⟩) (hO.block p HPL.out (fun h => h))).trans k0.1) ((World.cell?_of_block (a := ⟨p, 11, none⟩) (hO.block p HPL.out (fun h => h))).trans k0.2); have HPL10 := Lib.hid (Nat.lt_of_lt_of_le HPL.out hO.size); clear hO)
                | (go_at_call 12; (with_reducible refine (dl_over HL10.out).mono ?_); rintro e w' ⟨rfl, rfl⟩)
                | (go_at_call 13; (with_reducible refine (dl_running HL10.out).mono ?_); rintro e w11 ⟨v, rfl, hir1, hO⟩; obtain ⟨av, cv, rfl, hcv1, hcv2, -⟩ := id hir1; have HIR1 := Lib.hid hir1; have HIR11 := Lib.hid (HIR10.out.only hO); have HL11 := Lib.hid (HL10.out.only hO); have k2 := And.intro ((World.cell?_of_block (a := ⟨p, 13, none⟩) (hO.block p HPL10.out (fun h => h))).trans k1.1) ((World.cell?_of_block (a := ⟨p, 11, none⟩) (hO.block p HPL10.out (fun h => h))).trans k1.2); have HPL11 := Lib.hid (Nat.lt_of_lt_of_le HPL10.out hO.size); clear hir1 hO)
                | (go_at_call 21; (with_reducible refine (ints_same HIR1.out HIR11.out).mono ?_); rintro e w12 ⟨rfl, hO⟩; have HL12 := Lib.hid (HL11.out.only hO); have k3 := And.intro ((World.cell?_of_block (a := ⟨p, 13, none⟩) (hO.block p HPL11.out (fun h => h))).trans k2.1) ((World.cell?_of_block (a := ⟨p, 11, none⟩) (hO.block p HPL11.out (fun h => h))).trans k2.2); clear hO))
            clear k0 k1 k2 k3
            go_wp2_with fail
            go_roundw
            case rel => exact ⟨j + 1, r3, by omega, by go_num, HL12.out.sub (fun k hk => hk.elim)⟩
            case measure => simp [intOf]; omega
        · go_wp2_with (go_at_call 10; (with_reducible refine (speaks_ok _).mono ?_); rintro e w8 ⟨rfl, hB⟩)
          go_ret
          exact ⟨rfl, HI.out.below.trans (hB.mono HI.out.size)⟩
    · have hbad : ¬ (0 ≤ a ∧ a ≤ 5 ∧ 0 ≤ b ∧ b ≤ 3 ∧ (1 ≤ c ∧ c ≤ 1000000) ∧ (1 ≤ d ∧ d ≤ 1000000) ∧ (1 ≤ t ∧ t ≤ 1000000) ∧ isMoment nw0) := fun hh => hp ⟨⟨⟨hh.1, hh.2.1⟩, ⟨hh.2.2.1, hh.2.2.2.1⟩, hh.2.2.2.2.1, hh.2.2.2.2.2.1, hh.2.2.2.2.2.2.1⟩, hh.2.2.2.2.2.2.2⟩
      have HBAD := Lib.hid hbad
      clear hbad hp
      go_wp2_with (first
        | (go_at_call 9; (with_reducible refine (begin_bad a b c d t s nw0 HBAD.out _).mono ?_); rintro e w2 ⟨rfl, hO⟩; have hb2 := HBX.out.only hO (fun h => h); have HO := Lib.hid hO; have d0 := hb2.cell 0 _ rfl; have d1 := hb2.cell 1 _ rfl; have d2 := hb2.cell 2 _ rfl; have d3 := hb2.cell 3 _ rfl; have d4 := hb2.cell 4 _ rfl; have d5 := hb2.cell 5 _ rfl; have hgl := hb2.lt; clear hb2 hO)
        | (go_at_call 14; (with_reducible refine (gbegin_bad a b c d t s nw0 HBAD.out _).mono ?_); rintro e w3 ⟨rfl, rfl⟩)
        | (go_at_call 15; (with_reducible refine (acts_same (actRow_nil _) (actRow_nil _)).mono ?_); rintro e w4 ⟨rfl, hO4⟩; have HO4 := Lib.hid hO4; clear hO4)
        | (go_at_call 10; (with_reducible refine (speaks_ok _).mono ?_); rintro e w8 ⟨rfl, hB⟩))
      go_ret
      have hb4 := below_only HW1.out (HO.out.trans HO4.out (fun _ _ h => h)) HW1.out.size (fun _ h => h.elim)
      exact ⟨rfl, hb4.trans (hB.mono hb4.size)⟩
end Go.Proofs.Ytlcblfkmadjppaa
