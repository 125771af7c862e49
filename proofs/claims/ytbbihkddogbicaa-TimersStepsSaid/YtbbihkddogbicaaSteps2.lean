/- TimersSteps: the walk. -/
import Derived.Test.YtbbihkddogbicaaBoth
import Derived.Test.YtbbihkddogbicaaSteps
import Derived.Deep.Cut
namespace Go.Proofs.Ytbbihkddogbicaa
open Go.RowKit
set_option linter.unusedVariables false
set_option linter.unusedSimpArgs false

theorem steps_zero33 : ∀ w : World, (zeroValue 33).run Try.prog w = .ok (.agg #[.int .i64 0, .int .i64 0, .int .i64 0]) w := fun w => by kernel_rfl

set_option maxRecDepth 100000 in
theorem steps_bad (m : Int) (a : Option Addr) (len cap : Nat) (w : World) (hm : ¬ (1 ≤ m ∧ m ≤ 4096)) :
    Calls Try.prog 3 #[.int .i64 m, .slice a len cap] w fun e w' => e = .returned (.bool true) ∧ Below w.heap.size w w' := by
  have HM := Lib.hid hm
  clear hm
  go_enter Try.func3, Try.ntmps3
  go_wp2_with (first
    | (go_at_call 8; (with_reducible refine (new_bad _ m HM.out).mono ?_); rintro e wa ⟨rfl, rfl⟩)
    | (go_at_call 9; (with_reducible refine (rnew_bad _ m HM.out).mono ?_); rintro e wa ⟨rfl, rfl⟩)
    | (go_at_call 10; (with_reducible refine (speaks_ok _).mono ?_); rintro e w2 ⟨rfl, hS⟩))
  go_ret
  exact ⟨rfl, hS⟩

set_option maxRecDepth 100000 in
set_option maxHeartbeats 6400000 in
theorem steps_good (a : Option Addr) (len cap : Nat) (w : World) (hS : Steps w a len) (hlen : len * 24 ≤ 140737488351232) (most : Nat) (hm : 1 ≤ most ∧ most ≤ 4096) :
    Calls Try.prog 3 #[.int .i64 most, .slice a len cap] w fun e w' => e = .returned (.bool true) ∧ Below w.heap.size w w' := by
  obtain ⟨i3, hi3, hz30, hz31, hz32⟩ := info_parts Try.info3
  have hmax := hS.max
  have HM := Lib.hid hm
  have HS := Lib.hid hS
  clear hm hS
  go_enter Try.func3, Try.ntmps3
  go_wp2_with (first
    | (go_at_call 8; (with_reducible refine (new_ok w most HM.out).mono ?_); rintro e wa ⟨rfl, hNa⟩; have HNA := Lib.hid hNa; clear hNa)
    | (go_at_call 9; (with_reducible refine (rnew_ok wa most HM.out).mono ?_); rintro e wb ⟨rfl, hNb⟩; have HI0 := Lib.hid (d_new HM.out HNA.out hNb); clear hNb))
  obtain ⟨p, hp⟩ : ∃ p, p = w.heap.size := ⟨_, rfl⟩
  obtain ⟨q, hq⟩ : ∃ q, q = wa.heap.size := ⟨_, rfl⟩
  rw [← hp, ← hq] at HI0
  have HP := Lib.hid hp
  rw [← hp, ← hq]
  clear hp hq HNA
  go_loopw [9, 46] (fun v i wr => ∃ (j : Nat) (ts : List Tm) (used : List Nat) (set : Nat) (l : List Int), j ≤ len ∧ i = .int .i64 j ∧ set ≤ j ∧ l.length ≤ j ∧ D w wr none p q most ts used set ts used set v l) (fun _ i _ => len - (intOf i).toNat)
  case atStart => exact ⟨0, [], [], 0, [], Nat.zero_le _, rfl, Nat.le_refl _, Nat.le_refl _, by rw [HP.out] at HI0 ⊢; exact HI0.out⟩
  case round =>
    obtain ⟨j, ts, used, set, l, hj, rfl, hset, hll, hI⟩ := hrel
    obtain ⟨ao, bc, rfl, hbc1, hbc2, _⟩ := hI.irow
    obtain ⟨n, hn⟩ : ∃ n, n = l.length := ⟨_, rfl⟩
    rw [← hn] at hbc1 hll ⊢
    rw [← hn] at hI
    have HN := Lib.hid hn
    have HI := Lib.hid hI
    clear hI hn
    by_cases hlt : j < len
    · obtain ⟨b, off, rfl, hbl, hst⟩ := HS.out.at_ (by omega)
      obtain ⟨kd, x, y, hx5, hc0, hc1, hc2⟩ := hst j hlt
      have hblk := HI.out.below.block b hbl
      have d0 := (World.cell?_of_block (a := ⟨b, off + j * 3, none⟩) hblk).trans hc0
      have d1 := (World.cell?_of_block (a := ⟨b, off + j * 3 + 1, none⟩) hblk).trans hc1
      have d2 := (World.cell?_of_block (a := ⟨b, off + j * 3 + 2, none⟩) hblk).trans hc2
      have z33 := steps_zero33
      clear hst hc0 hc1 hc2 hblk
      rcases (show kd = 0 ∨ kd = 1 ∨ kd = 2 ∨ (kd ≠ 0 ∧ kd ≠ 1 ∧ kd ≠ 2) by omega) with rfl | rfl | rfl | ⟨hk0, hk1, hk2⟩
      · go_upto_region 11 with fail
        have hd0 : D w (wr.alloc (Obj.cells #[.int .i64 0, .int .i64 x, .int .i64 y] 33)) (some (wr.heap.size, [.int .i64 0, .int .i64 x, .int .i64 y])) p q most ts used set ts used set (.slice ao n bc) l := HI.out.new_ (cs := [.int .i64 0, .int .i64 x, .int .i64 y])
        obtain ⟨s, hs⟩ : ∃ s, s = wr.heap.size := ⟨_, rfl⟩
        rw [← hs] at hd0 ⊢
        generalize wr.alloc (Obj.cells #[.int .i64 0, .int .i64 x, .int .i64 y] 33) = w0 at hd0 ⊢
        have g0 := hd0.step.cell 0 _ rfl
        have g1 := hd0.step.cell 1 _ rfl
        have g2 := hd0.step.cell 2 _ rfl
        have hsl := hd0.step.lt
        have hD0 := Lib.hid hd0
        clear hd0 d0 d1 d2 z33 hs
        obtain ⟨rr, ff, ts', used', set', hrr, hset', hca, hcb⟩ := d_set hD0.out (by omega) x y
        have HCA := Lib.hid hca
        have HCB := Lib.hid hcb
        clear hca hcb
        go_wp2_with (first
          | (go_at_call 11; (refine HCA.out.mono ?_); rintro e w1 ⟨rfl, hD1⟩; have k1 := hD1.step.cell 1 _ rfl; have k2 := hD1.step.cell 2 _ rfl; have HD1 := Lib.hid hD1; clear hD1)
          | (go_at_call 12; (refine (HCB.out _ HD1.out).mono ?_); rintro e w2 ⟨rfl, hD2⟩; have HD2 := Lib.hid hD2; clear hD2)
          | (at_builtin; refine wpList_append_row rfl (.tmp 89) (.tmp 91) 31 rfl w.heap.size 3 i3 (.int .i64 0) 1 8 Try.underlying31 hi3 hz30 hz31 hz32 rfl (by decide) (.slice ao n bc) n (ints l) rfl ((by have := HD2.out.row; rw [← HN.out] at this; exact this.alloc _)) _ 1 1 [.int .i64 rr] rfl rfl (fun _ => ⟨_, rfl, new_one _ _ _⟩) (fun e => by cases e) (one_int _ _) (by unfold maxLen; omega) (by omega) (by have := HD2.out.size; simp only [World.size_alloc]; omega) ?_))
        intro v2 w5 hown2 hon2 hat2 _
        have hi2 := HD2.out.app hrr (by rw [← HN.out]; exact hown2) hon2 hat2
        obtain ⟨a2, q2, rfl, _, _, _, _⟩ := ownsRow_slice hown2
        have HD3 := Lib.hid hi2
        clear hi2 hown2 hon2 hat2 k1 k2
        go_wp2_with fail
        obtain ⟨na, nb, hna, hnb⟩ := d_next HD3.out
        have HNA := Lib.hid hna
        have HNB := Lib.hid hnb
        clear hna hnb
        go_wp2_with (first
          | (go_at_call 20; (refine (HNA.out _ HD3.out).mono ?_); rintro e w' ⟨rfl, rfl⟩)
          | (go_at_call 21; (refine (HNB.out _ HD3.out).mono ?_); rintro e w6 ⟨rfl, hD6⟩; have HD6 := Lib.hid hD6; clear hD6))
        obtain ⟨hql, ro, rc, cq, hrc1, hrc2⟩ := d_rlen HD6.out
        obtain ⟨m, hm, hm4⟩ : ∃ m : Nat, m = List.length _ ∧ m ≤ 4096 := ⟨_, rfl, (by have := HD6.out.ok.len; have := HM.out; exact Nat.le_trans HD6.out.ok.len HM.out.2)⟩
        rw [← hm] at cq hrc1
        have HML := Lib.hid hm
        clear hm
        go_quiet ((go_at_call 22; refine (d_len_eq HML.out (HD6.out.drawn (Drawn.of w6 _))).mono ?_; rintro e w' ⟨rfl, rfl⟩; exact ⟨rfl, _, rfl⟩))
        go_wp2_with fail
        go_roundw
        case rel => exact ⟨j + 1, _, _, _, _, by omega, by go_num, by omega, by rw [List.length_append, List.length_singleton, ← HN.out]; omega, (HD6.out.drawn (Drawn.of w6 _)).free⟩
        case measure => simp [intOf]; omega
      · go_upto_region 11 with fail
        have hd0 : D w (wr.alloc (Obj.cells #[.int .i64 1, .int .i64 x, .int .i64 y] 33)) (some (wr.heap.size, [.int .i64 1, .int .i64 x, .int .i64 y])) p q most ts used set ts used set (.slice ao n bc) l := HI.out.new_ (cs := [.int .i64 1, .int .i64 x, .int .i64 y])
        obtain ⟨s, hs⟩ : ∃ s, s = wr.heap.size := ⟨_, rfl⟩
        rw [← hs] at hd0 ⊢
        generalize wr.alloc (Obj.cells #[.int .i64 1, .int .i64 x, .int .i64 y] 33) = w0 at hd0 ⊢
        have g0 := hd0.step.cell 0 _ rfl
        have g1 := hd0.step.cell 1 _ rfl
        have g2 := hd0.step.cell 2 _ rfl
        have hsl := hd0.step.lt
        have hD0 := Lib.hid hd0
        clear hd0 d0 d1 d2 z33 hs
        by_cases hin : 0 ≤ x ∧ x < n
        · obtain ⟨i, rfl⟩ : ∃ i : Nat, x = i := ⟨x.toNat, by omega⟩
          have hi : i < n := by omega
          obtain ⟨g, rfl, hge, cg⟩ := hD0.out.irow.at_ rfl (i := i) (by rw [← HN.out]; exact hi)
          replace cg := cg i (by rw [← HN.out]; exact hi)
          have hz5 := hD0.out.big (l.getD i 0) (by have hi2 : i < l.length := (by rw [← HN.out]; exact hi); rw [List.getD_eq_getElem?_getD, List.getElem?_eq_getElem hi2]; exact List.getElem_mem hi2)
          generalize l.getD i 0 = z at cg hz5
          have f1 : decide (0 ≤ (i : Int)) = true := decide_eq_true (by omega)
          have f2 : decide ((i : Int) < (n : Int)) = true := decide_eq_true (by omega)
          have f2n : decide (i < n) = true := decide_eq_true hi
          clear hge hin
          obtain ⟨hb, hhb⟩ : ∃ hb, hb = has ts z := ⟨_, rfl⟩
          have HHB := Lib.hid hhb
          clear hhb
          go_upto_region 24 with fail
          go_upto_region 29 with (first
            | (go_at_call 13; (with_reducible refine (d_has_eq HHB.out hD0.out hz5).mono ?_); rintro e w1 ⟨rfl, hD1⟩; have HD1 := Lib.hid hD1; clear hD1)
            | (go_at_call 14; (with_reducible refine (d_rhas_eq HHB.out HD1.out).mono ?_); rintro e w2 ⟨rfl, hD2⟩; have HD2 := Lib.hid hD2; clear hD2)
            | (go_at_call 15; (with_reducible refine (d_cancel_eq HHB.out HD2.out hz5).mono ?_); rintro e w3 ⟨rfl, hD3⟩; have HD3 := Lib.hid hD3; clear hD3)
            | (go_at_call 16; (with_reducible refine (d_rcancel_eq HHB.out HD3.out).mono ?_); rintro e w4 ⟨rfl, hD4⟩; have HD4 := Lib.hid hD4; clear hD4))
          obtain ⟨na, nb, hna, hnb⟩ := d_next HD4.out
          have HNA := Lib.hid hna
          have HNB := Lib.hid hnb
          clear hna hnb
          go_wp2_with (first
            | (go_at_call 20; (refine (HNA.out _ HD4.out).mono ?_); rintro e w' ⟨rfl, rfl⟩)
            | (go_at_call 21; (refine (HNB.out _ HD4.out).mono ?_); rintro e w6 ⟨rfl, hD6⟩; have HD6 := Lib.hid hD6; clear hD6))
          obtain ⟨hql, ro, rc, cq, hrc1, hrc2⟩ := d_rlen HD6.out
          obtain ⟨m, hm, hm4⟩ : ∃ m : Nat, m = List.length _ ∧ m ≤ 4096 := ⟨_, rfl, (by have := HD6.out.ok.len; have := HM.out; exact Nat.le_trans HD6.out.ok.len HM.out.2)⟩
          rw [← hm] at cq hrc1
          have HML := Lib.hid hm
          clear hm
          go_quiet ((go_at_call 22; refine (d_len_eq HML.out (HD6.out.drawn (Drawn.of w6 _))).mono ?_; rintro e w' ⟨rfl, rfl⟩; exact ⟨rfl, _, rfl⟩))
          go_wp2_with fail
          go_roundw
          case rel => exact ⟨j + 1, _, _, _, _, by omega, by go_num, by omega, by rw [← HN.out]; omega, (HD6.out.drawn (Drawn.of w6 _)).free⟩
          case measure => simp [intOf]; omega
        · rcases (show x < 0 ∨ (0 ≤ x ∧ ¬ x < n) by omega) with h1 | ⟨h1, h2⟩
          · have f1 : decide (0 ≤ x) = false := decide_eq_false (by omega)
            clear hin
            obtain ⟨hb, hhb⟩ : ∃ hb, hb = has ts x := ⟨_, rfl⟩
            have HHB := Lib.hid hhb
            clear hhb
            go_upto_region 24 with fail
            go_upto_region 29 with (first
              | (go_at_call 13; (with_reducible refine (d_has_eq HHB.out hD0.out hx5).mono ?_); rintro e w1 ⟨rfl, hD1⟩; have HD1 := Lib.hid hD1; clear hD1)
              | (go_at_call 14; (with_reducible refine (d_rhas_eq HHB.out HD1.out).mono ?_); rintro e w2 ⟨rfl, hD2⟩; have HD2 := Lib.hid hD2; clear hD2)
              | (go_at_call 15; (with_reducible refine (d_cancel_eq HHB.out HD2.out hx5).mono ?_); rintro e w3 ⟨rfl, hD3⟩; have HD3 := Lib.hid hD3; clear hD3)
              | (go_at_call 16; (with_reducible refine (d_rcancel_eq HHB.out HD3.out).mono ?_); rintro e w4 ⟨rfl, hD4⟩; have HD4 := Lib.hid hD4; clear hD4))
            obtain ⟨na, nb, hna, hnb⟩ := d_next HD4.out
            have HNA := Lib.hid hna
            have HNB := Lib.hid hnb
            clear hna hnb
            go_wp2_with (first
              | (go_at_call 20; (refine (HNA.out _ HD4.out).mono ?_); rintro e w' ⟨rfl, rfl⟩)
              | (go_at_call 21; (refine (HNB.out _ HD4.out).mono ?_); rintro e w6 ⟨rfl, hD6⟩; have HD6 := Lib.hid hD6; clear hD6))
            obtain ⟨hql, ro, rc, cq, hrc1, hrc2⟩ := d_rlen HD6.out
            obtain ⟨m, hm, hm4⟩ : ∃ m : Nat, m = List.length _ ∧ m ≤ 4096 := ⟨_, rfl, (by have := HD6.out.ok.len; have := HM.out; exact Nat.le_trans HD6.out.ok.len HM.out.2)⟩
            rw [← hm] at cq hrc1
            have HML := Lib.hid hm
            clear hm
            go_quiet ((go_at_call 22; refine (d_len_eq HML.out (HD6.out.drawn (Drawn.of w6 _))).mono ?_; rintro e w' ⟨rfl, rfl⟩; exact ⟨rfl, _, rfl⟩))
            go_wp2_with fail
            go_roundw
            case rel => exact ⟨j + 1, _, _, _, _, by omega, by go_num, by omega, by rw [← HN.out]; omega, (HD6.out.drawn (Drawn.of w6 _)).free⟩
            case measure => simp [intOf]; omega
          · have f1 : decide (0 ≤ x) = true := decide_eq_true h1
            have f2 : decide (x < (n : Int)) = false := decide_eq_false h2
            clear hin
            obtain ⟨hb, hhb⟩ : ∃ hb, hb = has ts x := ⟨_, rfl⟩
            have HHB := Lib.hid hhb
            clear hhb
            go_upto_region 24 with fail
            go_upto_region 29 with (first
              | (go_at_call 13; (with_reducible refine (d_has_eq HHB.out hD0.out hx5).mono ?_); rintro e w1 ⟨rfl, hD1⟩; have HD1 := Lib.hid hD1; clear hD1)
              | (go_at_call 14; (with_reducible refine (d_rhas_eq HHB.out HD1.out).mono ?_); rintro e w2 ⟨rfl, hD2⟩; have HD2 := Lib.hid hD2; clear hD2)
              | (go_at_call 15; (with_reducible refine (d_cancel_eq HHB.out HD2.out hx5).mono ?_); rintro e w3 ⟨rfl, hD3⟩; have HD3 := Lib.hid hD3; clear hD3)
              | (go_at_call 16; (with_reducible refine (d_rcancel_eq HHB.out HD3.out).mono ?_); rintro e w4 ⟨rfl, hD4⟩; have HD4 := Lib.hid hD4; clear hD4))
            obtain ⟨na, nb, hna, hnb⟩ := d_next HD4.out
            have HNA := Lib.hid hna
            have HNB := Lib.hid hnb
            clear hna hnb
            go_wp2_with (first
              | (go_at_call 20; (refine (HNA.out _ HD4.out).mono ?_); rintro e w' ⟨rfl, rfl⟩)
              | (go_at_call 21; (refine (HNB.out _ HD4.out).mono ?_); rintro e w6 ⟨rfl, hD6⟩; have HD6 := Lib.hid hD6; clear hD6))
            obtain ⟨hql, ro, rc, cq, hrc1, hrc2⟩ := d_rlen HD6.out
            obtain ⟨m, hm, hm4⟩ : ∃ m : Nat, m = List.length _ ∧ m ≤ 4096 := ⟨_, rfl, (by have := HD6.out.ok.len; have := HM.out; exact Nat.le_trans HD6.out.ok.len HM.out.2)⟩
            rw [← hm] at cq hrc1
            have HML := Lib.hid hm
            clear hm
            go_quiet ((go_at_call 22; refine (d_len_eq HML.out (HD6.out.drawn (Drawn.of w6 _))).mono ?_; rintro e w' ⟨rfl, rfl⟩; exact ⟨rfl, _, rfl⟩))
            go_wp2_with fail
            go_roundw
            case rel => exact ⟨j + 1, _, _, _, _, by omega, by go_num, by omega, by rw [← HN.out]; omega, (HD6.out.drawn (Drawn.of w6 _)).free⟩
            case measure => simp [intOf]; omega
      · go_upto_region 11 with fail
        have hd0 : D w (wr.alloc (Obj.cells #[.int .i64 2, .int .i64 x, .int .i64 y] 33)) (some (wr.heap.size, [.int .i64 2, .int .i64 x, .int .i64 y])) p q most ts used set ts used set (.slice ao n bc) l := HI.out.new_ (cs := [.int .i64 2, .int .i64 x, .int .i64 y])
        obtain ⟨s, hs⟩ : ∃ s, s = wr.heap.size := ⟨_, rfl⟩
        rw [← hs] at hd0 ⊢
        generalize wr.alloc (Obj.cells #[.int .i64 2, .int .i64 x, .int .i64 y] 33) = w0 at hd0 ⊢
        have g0 := hd0.step.cell 0 _ rfl
        have g1 := hd0.step.cell 1 _ rfl
        have g2 := hd0.step.cell 2 _ rfl
        have hsl := hd0.step.lt
        have hD0 := Lib.hid hd0
        clear hd0 d0 d1 d2 z33 hs
        go_upto_region 27 with fail
        have HDR := Lib.hid (hD0.out.only ((Only.refl (fun _ => False) w0).drew))
        have k0 := HDR.out.step.cell 1 _ rfl
        clear g0 g1 g2
        go_region_held3 (fun w' => w'.cell? ⟨s, 1, none⟩ = some (.int .i64 x))
          (first | exact k0 | exact k1 | exact k2 | exact k3)
          (first
            | (go_at_call 18; (with_reducible refine (d_fire HDR.out x).mono ?_); rintro e w1 ⟨r, rfl, hF⟩; have k1 := hF.d.step.cell 1 _ rfl; have HF := Lib.hid hF; clear hF)
            | (go_at_call 19; (with_reducible refine (d_rfire HF.out x).mono ?_); rintro e w2 ⟨r2, rfl, hD2, hr1, hr2⟩; have k2 := hD2.step.cell 1 _ rfl; have HD2 := Lib.hid hD2; have HR1 := Lib.hid hr1; have HR2 := Lib.hid hr2; clear hD2 hr1 hr2)
            | (go_at_call 17; (with_reducible refine (ints_same HR1.out HR2.out).mono ?_); rintro e w3 ⟨rfl, hO⟩; have HD4 := Lib.hid (HD2.out.only hO); have k3 := HD4.out.step.cell 1 _ rfl; clear hO))
        clear k0 k1 k2 k3
        go_wp2_with fail
        obtain ⟨na, nb, hna, hnb⟩ := d_next HD4.out
        have HNA := Lib.hid hna
        have HNB := Lib.hid hnb
        clear hna hnb
        go_wp2_with (first
          | (go_at_call 20; (refine (HNA.out _ HD4.out).mono ?_); rintro e w' ⟨rfl, rfl⟩)
          | (go_at_call 21; (refine (HNB.out _ HD4.out).mono ?_); rintro e w6 ⟨rfl, hD6⟩; have HD6 := Lib.hid hD6; clear hD6))
        obtain ⟨hql, ro, rc, cq, hrc1, hrc2⟩ := d_rlen HD6.out
        obtain ⟨m, hm, hm4⟩ : ∃ m : Nat, m = List.length _ ∧ m ≤ 4096 := ⟨_, rfl, (by have := HD6.out.ok.len; have := HM.out; exact Nat.le_trans HD6.out.ok.len HM.out.2)⟩
        rw [← hm] at cq hrc1
        have HML := Lib.hid hm
        clear hm
        go_quiet ((go_at_call 22; refine (d_len_eq HML.out (HD6.out.drawn (Drawn.of w6 _))).mono ?_; rintro e w' ⟨rfl, rfl⟩; exact ⟨rfl, _, rfl⟩))
        go_wp2_with fail
        go_roundw
        case rel => exact ⟨j + 1, _, _, _, _, by omega, by go_num, by omega, by rw [← HN.out]; omega, (HD6.out.drawn (Drawn.of w6 _)).free⟩
        case measure => simp [intOf]; omega
      · have f0 : (kd == 0) = false := beq_eq_false_iff_ne.2 hk0
        have f1 : (kd == 1) = false := beq_eq_false_iff_ne.2 hk1
        have f2 : (kd == 2) = false := beq_eq_false_iff_ne.2 hk2
        go_upto_region 11 with fail
        have hd0 : D w (wr.alloc (Obj.cells #[.int .i64 kd, .int .i64 x, .int .i64 y] 33)) (some (wr.heap.size, [.int .i64 kd, .int .i64 x, .int .i64 y])) p q most ts used set ts used set (.slice ao n bc) l := HI.out.new_ (cs := [.int .i64 kd, .int .i64 x, .int .i64 y])
        obtain ⟨s, hs⟩ : ∃ s, s = wr.heap.size := ⟨_, rfl⟩
        rw [← hs] at hd0 ⊢
        generalize wr.alloc (Obj.cells #[.int .i64 kd, .int .i64 x, .int .i64 y] 33) = w0 at hd0 ⊢
        have g0 := hd0.step.cell 0 _ rfl
        have g1 := hd0.step.cell 1 _ rfl
        have g2 := hd0.step.cell 2 _ rfl
        have hsl := hd0.step.lt
        have hD0 := Lib.hid hd0
        clear hd0 d0 d1 d2 z33 hs
        go_upto_region 12 with fail
        have HDR := Lib.hid (hD0.out.only ((Only.refl (fun _ => False) w0).drew))
        have k0 := HDR.out.step.cell 1 _ rfl
        clear g0 g1 g2
        obtain ⟨hb, hhb⟩ : ∃ hb, hb = has ts x := ⟨_, rfl⟩
        have HHB := Lib.hid hhb
        clear hhb hk0 hk1 hk2
        go_region_held3 (fun w' => w'.cell? ⟨s, 1, none⟩ = some (.int .i64 x))
          (first | exact k0 | exact k1 | exact k2)
          (first
            | (go_at_call 15; (with_reducible refine (d_cancel_eq HHB.out HDR.out hx5).mono ?_); rintro e w1 ⟨rfl, hD1⟩; have k1 := hD1.step.cell 1 _ rfl; have HD1 := Lib.hid hD1; clear hD1)
            | (go_at_call 16; (with_reducible refine (d_rcancel_eq HHB.out HD1.out).mono ?_); rintro e w2 ⟨rfl, hD2⟩; have k2 := hD2.step.cell 1 _ rfl; have HD4 := Lib.hid hD2; clear hD2))
        clear k0 k1 k2
        go_wp2_with fail
        obtain ⟨na, nb, hna, hnb⟩ := d_next HD4.out
        have HNA := Lib.hid hna
        have HNB := Lib.hid hnb
        clear hna hnb
        go_wp2_with (first
          | (go_at_call 20; (refine (HNA.out _ HD4.out).mono ?_); rintro e w' ⟨rfl, rfl⟩)
          | (go_at_call 21; (refine (HNB.out _ HD4.out).mono ?_); rintro e w6 ⟨rfl, hD6⟩; have HD6 := Lib.hid hD6; clear hD6))
        obtain ⟨hql, ro, rc, cq, hrc1, hrc2⟩ := d_rlen HD6.out
        obtain ⟨m, hm, hm4⟩ : ∃ m : Nat, m = List.length _ ∧ m ≤ 4096 := ⟨_, rfl, (by have := HD6.out.ok.len; have := HM.out; exact Nat.le_trans HD6.out.ok.len HM.out.2)⟩
        rw [← hm] at cq hrc1
        have HML := Lib.hid hm
        clear hm
        go_quiet ((go_at_call 22; refine (d_len_eq HML.out (HD6.out.drawn (Drawn.of w6 _))).mono ?_; rintro e w' ⟨rfl, rfl⟩; exact ⟨rfl, _, rfl⟩))
        go_wp2_with fail
        go_roundw
        case rel => exact ⟨j + 1, _, _, _, _, by omega, by go_num, by omega, by rw [← HN.out]; omega, (HD6.out.drawn (Drawn.of w6 _)).free⟩
        case measure => simp [intOf]; omega
    · go_wp2_with (go_at_call 10; (with_reducible refine (speaks_ok _).mono ?_); rintro e w3 ⟨rfl, hB⟩)
      go_ret
      exact ⟨rfl, HI.out.below.trans (hB.mono HI.out.size)⟩
end Go.Proofs.Ytbbihkddogbicaa
