/- AttemptSafe. -/
import Derived.Test.YtlcblfkmadjppaaLone
namespace Go.Proofs.Ytlcblfkmadjppaa
open Go.RowKit
set_option linter.unusedVariables false
set_option linter.unusedSimpArgs false

set_option maxRecDepth 100000 in
set_option maxHeartbeats 3200000 in
theorem safe_walk (a b c d t : Int) (s : Bool) (a1 : Option Addr) (len1 cap1 : Nat) (w : World) (hs : Steps w a1 len1) :
    Calls Try.prog 4 #[plV a b c d t s, .slice a1 len1 cap1] w fun e w' => e = .returned (.bool true) ∧ Below w.heap.size w w' := by
  have hmax := hs.max
  have HS := Lib.hid hs
  clear hs
  go_enter Try.func4, Try.ntmps4
  go_upto_region 1 with fail
  have hbx : Blk (w.alloc (Obj.cells #[.int .i64 a, .int .i64 b, .int .i64 c, .int .i64 d, .int .i64 t, .bool s] 23)) w.heap.size [.int .i64 a, .int .i64 b, .int .i64 c, .int .i64 d, .int .i64 t, .bool s] 23 := Blk.new w [.int .i64 a, .int .i64 b, .int .i64 c, .int .i64 d, .int .i64 t, .bool s] 23
  have hbw : Below w.heap.size w (w.alloc (Obj.cells #[.int .i64 a, .int .i64 b, .int .i64 c, .int .i64 d, .int .i64 t, .bool s] 23)) := (Below.refl _ _).alloc (Nat.le_refl _) _
  obtain ⟨g, hg⟩ : ∃ g, g = w.heap.size := ⟨_, rfl⟩
  rw [← hg] at hbx ⊢
  have hgw : w.heap.size ≤ g := by omega
  generalize w.alloc (Obj.cells #[.int .i64 a, .int .i64 b, .int .i64 c, .int .i64 d, .int .i64 t, .bool s] 23) = w1 at hbx hbw ⊢
  have c5 := hbx.cell 5 _ rfl
  have f5 := hbx.free 5
  have hgl := hbx.lt
  have hb3 := hbx.set 5 (.bool false)
  have hw3 := hbw.setCell (p := ⟨g, 5, none⟩) hgw (.bool false)
  clear hbx hbw hg
  go_upto_region 2 with fail
  generalize w1.setCell ⟨g, 5, none⟩ (.bool false) = w3 at hb3 hw3 ⊢
  have d0 := hb3.cell 0 _ rfl
  have d1 := hb3.cell 1 _ rfl
  have d2 := hb3.cell 2 _ rfl
  have d3 := hb3.cell 3 _ rfl
  have d4 := hb3.cell 4 _ rfl
  have d5 : w3.cell? ⟨g, 5, none⟩ = some (.bool false) := hb3.cell 5 _ rfl
  have hgl3 := hb3.lt
  have HW3 := Lib.hid hw3
  clear hb3 hw3 c5 f5 hgl
  by_cases hp : OkP a b c d t
  · have HP := Lib.hid hp
    clear hp
    go_upto_region 6 with (go_at_call 9; (with_reducible refine (law_begin (K := []) (s := false) HP.out HW3.out (fun x hx => absurd hx (by simp))).mono ?_); rintro e w4 ⟨q, g0, cap0, C0, rfl, hc1, hc2, hL⟩; have HL := Lib.hid (hL.sub (K' := []) (fun x hx => absurd hx (by simp))); clear hL)
    clear d0 d1 d2 d3 d4 d5
    go_loopw [34] (fun i wr => ∃ (j : Nat) (r : Rq), j ≤ len1 ∧ i = .int .i64 j ∧ Lq w wr q r [] ∧ r.pl = mkPl a b c d t false) (fun i _ => len1 - (intOf i).toNat)
    case atStart => exact ⟨0, _, Nat.zero_le _, rfl, HL.out, rfl⟩
    case round =>
      obtain ⟨j, r, hj, rfl, hI, hpl⟩ := hrel
      have HI := Lib.hid hI
      have HPL := Lib.hid hpl
      clear hI hpl
      have z33 := steps_zero33
      have z37 := zero37
      by_cases hlt : j < len1
      · obtain ⟨b1, off, rfl, hbl, hst⟩ := HS.out.at_ (by omega)
        obtain ⟨kd, nw, dd, wy, al, hc0, hc1', hc2', hc3, hc4⟩ := hst j hlt
        have hblk := HI.out.below.block b1 hbl
        have e0 := (World.cell?_of_block (a := ⟨b1, off + j * 5, none⟩) hblk).trans hc0
        have e1 := (World.cell?_of_block (a := ⟨b1, off + j * 5 + 1, none⟩) hblk).trans hc1'
        have e2 := (World.cell?_of_block (a := ⟨b1, off + j * 5 + 2, none⟩) hblk).trans hc2'
        have e3 := (World.cell?_of_block (a := ⟨b1, off + j * 5 + 3, none⟩) hblk).trans hc3
        have e4 := (World.cell?_of_block (a := ⟨b1, off + j * 5 + 4, none⟩) hblk).trans hc4
        clear hst hc0 hc1' hc2' hc3 hc4 hblk
        go_upto_region 8 with fail
        have hbn : Blk (wr.alloc (Obj.cells #[.int .i64 kd, .int .i64 nw, .int .i64 dd, .int .i64 wy, .bool al] 33)) wr.heap.size [.int .i64 kd, .int .i64 nw, .int .i64 dd, .int .i64 wy, .bool al] 33 := Blk.new wr [.int .i64 kd, .int .i64 nw, .int .i64 dd, .int .i64 wy, .bool al] 33
        have hL4' := HI.out.new_ (cs := [.int .i64 kd, .int .i64 nw, .int .i64 dd, .int .i64 wy, .bool al]) (t := 33)
        obtain ⟨g4, hg4⟩ : ∃ g4, g4 = wr.heap.size := ⟨_, rfl⟩
        rw [← hg4] at hbn hL4' ⊢
        clear hg4
        generalize wr.alloc (Obj.cells #[.int .i64 kd, .int .i64 nw, .int .i64 dd, .int .i64 wy, .bool al] 33) = w5 at hbn hL4' ⊢
        have n0 := hbn.cell 0 _ rfl
        have n1 := hbn.cell 1 _ rfl
        have n2 := hbn.cell 2 _ rfl
        have n3 := hbn.cell 3 _ rfl
        have n4 := hbn.cell 4 _ rfl
        have hgl4 := hbn.lt
        have HL4 := Lib.hid (hL4' : Lq w w5 q r [(g4, [.int .i64 kd, .int .i64 nw, .int .i64 dd, .int .i64 wy, .bool al], 33)])
        clear hbn hL4' e0 e1 e2 e3 e4
        obtain ⟨l, hl⟩ : ∃ l, l = (stepI r kd nw dd wy al).2.1 := ⟨_, rfl⟩
        have hno : ∀ x ∈ l, x.kind = 1 → x.n = 1 → kd = 0 ∧ (wy = 1 ∨ wy = 4) := fun x hx hk hn => by
          rw [hl] at hx
          rcases step_tries HI.out.ok hx hk with ⟨_, _, h⟩ | ⟨h, _⟩
          · rw [HPL.out] at h
            exact h.elim (fun h => by cases h) (fun h => h)
          · omega
        have hdo := does_any HL4.out kd nw dd wy al
        rw [← hl] at hdo
        have HDO := Lib.hid hdo
        have HNO := Lib.hid hno
        have HPL2 := Lib.hid ((step_pl r kd nw dd wy al).1.trans HPL.out)
        clear hdo hno hl
        go_upto_region 10 with (go_at_call 11; (refine HDO.out.mono ?_); rintro e w6 ⟨v, rfl, hL6, hrow⟩; have har := actRow hrow; obtain ⟨ao, cp, rfl, ha1, ha2, -⟩ := id har; have HL6 := Lib.hid hL6; have HAR := Lib.hid har; clear hL6 hrow har)
        obtain ⟨m, hm⟩ : ∃ m, m = l.length := ⟨_, rfl⟩
        rw [← hm] at ha1 ⊢
        have hAR2 := HAR.out
        rw [← hm] at hAR2
        have HM := Lib.hid hm
        have HAR2 := Lib.hid hAR2
        clear hm hAR2
        go_loopw [13, 46] (fun _ i wr2 => ∃ i2 : Nat, i2 ≤ m ∧ i = .int .i64 i2 ∧ Only (fun _ => False) w6 wr2) (fun _ i _ => m - (intOf i).toNat)
        case atStart => exact ⟨0, Nat.zero_le _, rfl, Only.refl _ _⟩
        case round =>
          obtain ⟨i2, hi2, rfl, hO2⟩ := hrel
          have HO2 := Lib.hid hO2
          clear hO2
          by_cases hlt2 : i2 < m
          · have hil : i2 < l.length := by rw [← HM.out]; exact hlt2
            obtain ⟨g7, rfl, hg7, k0, k1, k2⟩ := (HAR2.out.only HO2.out).at_ rfl hil
            have hst := ((HL6.out.only HO2.out).kept (List.mem_cons_self ..))
            have s0 := hst.cell 0 _ rfl
            have s3 := hst.cell 3 _ rfl
            have hgst := hst.lt
            have hkd := HNO.out _ (acAt_mem hil)
            obtain ⟨y, hy⟩ : ∃ y, y = acAt l i2 := ⟨_, rfl⟩
            rw [← hy] at k0 k1 k2 hkd
            clear hst hy hil
            have hcase : y.kind ≠ 1 ∨ (y.kind = 1 ∧ y.n ≠ 1) ∨ (y.kind = 1 ∧ y.n = 1 ∧ kd = 0 ∧ wy = 1) ∨ (y.kind = 1 ∧ y.n = 1 ∧ kd = 0 ∧ wy ≠ 1 ∧ wy = 4) := by
              by_cases h1 : y.kind = 1
              · by_cases h2 : y.n = 1
                · obtain ⟨h3, h4⟩ := hkd h1 h2
                  by_cases h5 : wy = 1
                  · exact .inr (.inr (.inl ⟨h1, h2, h3, h5⟩))
                  · exact .inr (.inr (.inr ⟨h1, h2, h3, h5, h4.elim (fun h => absurd h h5) (fun h => h)⟩))
                · exact .inr (.inl ⟨h1, h2⟩)
              · exact .inl h1
            obtain ⟨yk, hyk⟩ : ∃ yk, yk = y.kind := ⟨_, rfl⟩
            obtain ⟨yn, hyn⟩ : ∃ yn, yn = y.n := ⟨_, rfl⟩
            rw [← hyk, ← hyn] at hcase
            rw [← hyk] at k0
            rw [← hyn] at k2
            clear hkd hyk hyn
            rcases hcase with h1 | ⟨rfl, h2⟩ | ⟨rfl, rfl, rfl, rfl⟩ | ⟨rfl, rfl, rfl, h5, rfl⟩
            · have fk : (yk == 1) = false := beq_eq_false_iff_ne.2 h1
              clear h1
              go_wp2_with fail
              go_roundw
              case rel => exact ⟨i2 + 1, by omega, by go_num, HO2.out.alloc _⟩
              case measure => simp [intOf]; omega
            · have fk : (yn == 1) = false := beq_eq_false_iff_ne.2 h2
              clear h2
              go_wp2_with fail
              go_roundw
              case rel => exact ⟨i2 + 1, by omega, by go_num, HO2.out.alloc _⟩
              case measure => simp [intOf]; omega
            · go_wp2_with fail
              go_roundw
              case rel => exact ⟨i2 + 1, by omega, by go_num, HO2.out.alloc _⟩
              case measure => simp [intOf]; omega
            · clear h5
              go_wp2_with fail
              go_roundw
              case rel => exact ⟨i2 + 1, by omega, by go_num, HO2.out.alloc _⟩
              case measure => simp [intOf]; omega
          · go_wp2_with fail
            go_roundw
            case rel => exact ⟨j + 1, _, by omega, by go_num, (HL6.out.only HO2.out).sub (fun x hx => absurd hx (by simp)), HPL2.out⟩
            case measure => simp [intOf]; omega
      · go_wp2_with (go_at_call 10; (with_reducible refine (speaks_ok _).mono ?_); rintro e w8 ⟨rfl, hB⟩)
        go_ret
        exact ⟨rfl, HI.out.below.trans (hB.mono HI.out.size)⟩
  · have HP := Lib.hid hp
    clear hp
    go_wp2_with (first
      | (go_at_call 9; (with_reducible refine (law_begin_bad (s := false) HP.out _).mono ?_); rintro e w4 ⟨rfl, hO⟩; have HO := Lib.hid hO; clear hO)
      | (go_at_call 10; (with_reducible refine (speaks_ok _).mono ?_); rintro e w8 ⟨rfl, hB⟩))
    go_ret
    have hb4 := below_only HW3.out HO.out HW3.out.size (fun _ h => h.elim)
    exact ⟨rfl, hb4.trans (hB.mono hb4.size)⟩
end Go.Proofs.Ytlcblfkmadjppaa
