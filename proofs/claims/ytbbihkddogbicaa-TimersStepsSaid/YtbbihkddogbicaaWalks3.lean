/- timers.down (printed by gen_down.py). -/
import Derived.Test.YtbbihkddogbicaaWalks2
namespace Go.Proofs.Ytbbihkddogbicaa
open Go.RowKit
set_option linter.unusedVariables false
set_option linter.unusedSimpArgs false

set_option maxRecDepth 100000 in
set_option maxHeartbeats 3200000 in
theorem down_any {w : World} {p g cap : Nat} {h : List Tm} {C : List Value} (H : Hp w p g cap h C) (i : Nat) (hi : i < h.length) :
    Calls Try.prog 37 #[.pointer (some ⟨p, 0, none⟩), .int .i64 i, lessV p] w fun e w' => e = .returned (.tuple #[]) ∧ UpPost w w' p g cap (down h i) C := by
  have HH := Lib.hid H
  clear H
  go_enter Try.func37, Try.ntmps37
  go_wp2
  go_loopw [1, 6] (fun iv kv wr => ∃ (j : Nat) (hk : List Tm), iv = .int .i64 j ∧ j < hk.length ∧ Hp wr p g cap hk C ∧ Only (fun k => k = g) w wr ∧ Hid (down h i = down hk j) ∧ hk.length = h.length) (fun iv _ _ => h.length - (intOf iv).toNat)
  case atStart => exact ⟨i, h, rfl, hi, HH.out, Only.refl _ _, rfl, rfl⟩
  case round =>
    obtain ⟨j, hk, rfl, hj, hH, hO, hE, hlen0⟩ := hrel
    have hle := hH.le
    have hmx := hH.max
    have hf := hH.fld
    obtain ⟨k1, hk1⟩ : ∃ k, k = 2 * j + 1 := ⟨_, rfl⟩
    obtain ⟨k2, hk2⟩ : ∃ k, k = 2 * j + 2 := ⟨_, rfl⟩
    have e1 : 2 * (j : Int) + 1 = (k1 : Int) := by omega
    have e2 : (k1 : Int) + 1 = (k2 : Int) := by omega
    have HK1 := Lib.hid hk1
    have HK2 := Lib.hid hk2
    have HHK := Lib.hid hH
    have HO := Lib.hid hO
    have b1 : k1 ≤ 8193 := by omega
    have b2 : k2 ≤ 8194 := by omega
    have b3 : j < k1 := by omega
    have b4 : j < k2 := by omega
    have hkk := kid_two hk j
    have hkd : kid hk j = if k2 < hk.length ∧ lt (nth_ hk k2) (nth_ hk k1) then k2 else k1 := by rw [hk1, hk2]; rfl
    have HKD := Lib.hid hkd
    have HLEN := Lib.hid hlen0
    clear hk1 hk2 hH hO hkk hkd hlen0
    by_cases c1 : k1 < hk.length
    · by_cases c2 : k2 < hk.length
      · have g2 : decide ((k2 : Int) < (hk.length : Int)) = true := decide_eq_true (by omega)
        by_cases t1 : lt (nth_ hk k2) (nth_ hk k1)
        · have hd2 : decide (lt (nth_ hk k2) (nth_ hk k1)) = true := decide_eq_true t1
          have hkid : kid hk j = k2 := by rw [HKD.out]; exact if_pos ⟨c2, t1⟩
          have HKID := Lib.hid hkid
          have HD2 := Lib.hid hd2
          clear hkid hd2 t1
          by_cases t2 : lt (nth_ hk k2) (nth_ hk j)
          · have ed : decide (lt (nth_ hk k2) (nth_ hk j)) = true := decide_eq_true t2
            have HED := Lib.hid ed
            have HT2 := Lib.hid t2
            clear ed t2
            go_wp2_with (first
              | (go_at_call 27; (with_reducible refine (less_any HHK.out k2 k1 c2 c1).mono ?_); rintro e w1 ⟨rfl, hO1⟩; rw [HD2.out]; have HH1 := Lib.hid (HHK.out.only hO1 id id); have HO1 := Lib.hid (HO.out.trans hO1 (fun _ _ h => h.elim)); have hf1 := HH1.out.fld; clear hO1)
              | (go_at_call 27; (with_reducible refine (less_any HH1.out k2 j c2 hj).mono ?_); rintro e w2 ⟨rfl, hO2⟩; rw [HED.out]; have HH2 := Lib.hid (HH1.out.only hO2 id id); have HO2 := Lib.hid (HO1.out.trans hO2 (fun _ _ h => h.elim)); have hf2 := HH2.out.fld; clear hO2))
            clear hf hf1 hf2
            obtain ⟨a0, a1, a2, a3⟩ := HH2.out.cells hj
            obtain ⟨b0', b1', b2', b3'⟩ := HH2.out.cells c2
            have hf := HH2.out.fld
            have ff : ∀ o, w2.frozen? ⟨g, o, none⟩ = false := fun o => HH2.out.row.free o
            obtain ⟨x, hx⟩ : ∃ x, x = nth_ hk j := ⟨_, rfl⟩
            obtain ⟨y, hy⟩ : ∃ y, y = nth_ hk k2 := ⟨_, rfl⟩
            rw [← hx] at a0 a1 a2 a3
            rw [← hy] at b0' b1' b2' b3'
            have HX := Lib.hid hx
            have HY := Lib.hid hy
            clear hx hy
            go_region
            go_wp2
            go_roundw
            case rel => exact ⟨k2, swap hk j k2, rfl, by rw [length_swap]; exact c2, (HH2.out.swap_ hj c2 HX.out HY.out).drew, ((HO2.out.put4 (fun _ => rfl) _ _).put4 (fun _ => rfl) _ _).drew, hE.out.trans (by rw [down_step (show 2 * j + 1 < hk.length by have := HK1.out; omega) (by rw [HKID.out]; exact HT2.out), HKID.out]), by rw [length_swap]; exact HLEN.out⟩
            case measure => simp [intOf]; have := HLEN.out; omega
          · have ed : decide (lt (nth_ hk k2) (nth_ hk j)) = false := decide_eq_false t2
            have HED := Lib.hid ed
            have HT2 := Lib.hid t2
            clear ed t2
            go_wp2_with (first
              | (go_at_call 27; (with_reducible refine (less_any HHK.out k2 k1 c2 c1).mono ?_); rintro e w1 ⟨rfl, hO1⟩; rw [HD2.out]; have HH1 := Lib.hid (HHK.out.only hO1 id id); have HO1 := Lib.hid (HO.out.trans hO1 (fun _ _ h => h.elim)); have hf1 := HH1.out.fld; clear hO1)
              | (go_at_call 27; (with_reducible refine (less_any HH1.out k2 j c2 hj).mono ?_); rintro e w2 ⟨rfl, hO2⟩; rw [HED.out]; have HH2 := Lib.hid (HH1.out.only hO2 id id); have HO2 := Lib.hid (HO1.out.trans hO2 (fun _ _ h => h.elim)); have hf2 := HH2.out.fld; clear hO2))
            refine bodyPost_ret (results_none rfl _ _ _) rfl ?_
            exact ⟨rfl, by rw [hE.out, down_stop (fun hc => HT2.out (by rw [← HKID.out]; exact hc.2))]; exact ⟨HH2.out, HO2.out⟩⟩
        · have hd2 : decide (lt (nth_ hk k2) (nth_ hk k1)) = false := decide_eq_false t1
          have hkid : kid hk j = k1 := by rw [HKD.out]; exact if_neg (fun hc => t1 hc.2)
          have HKID := Lib.hid hkid
          have HD2 := Lib.hid hd2
          clear hkid hd2 t1
          by_cases t2 : lt (nth_ hk k1) (nth_ hk j)
          · have ed : decide (lt (nth_ hk k1) (nth_ hk j)) = true := decide_eq_true t2
            have HED := Lib.hid ed
            have HT2 := Lib.hid t2
            clear ed t2
            go_wp2_with (first
              | (go_at_call 27; (with_reducible refine (less_any HHK.out k2 k1 c2 c1).mono ?_); rintro e w1 ⟨rfl, hO1⟩; rw [HD2.out]; have HH1 := Lib.hid (HHK.out.only hO1 id id); have HO1 := Lib.hid (HO.out.trans hO1 (fun _ _ h => h.elim)); have hf1 := HH1.out.fld; clear hO1)
              | (go_at_call 27; (with_reducible refine (less_any HH1.out k1 j c1 hj).mono ?_); rintro e w2 ⟨rfl, hO2⟩; rw [HED.out]; have HH2 := Lib.hid (HH1.out.only hO2 id id); have HO2 := Lib.hid (HO1.out.trans hO2 (fun _ _ h => h.elim)); have hf2 := HH2.out.fld; clear hO2))
            clear hf hf1 hf2
            obtain ⟨a0, a1, a2, a3⟩ := HH2.out.cells hj
            obtain ⟨b0', b1', b2', b3'⟩ := HH2.out.cells c1
            have hf := HH2.out.fld
            have ff : ∀ o, w2.frozen? ⟨g, o, none⟩ = false := fun o => HH2.out.row.free o
            obtain ⟨x, hx⟩ : ∃ x, x = nth_ hk j := ⟨_, rfl⟩
            obtain ⟨y, hy⟩ : ∃ y, y = nth_ hk k1 := ⟨_, rfl⟩
            rw [← hx] at a0 a1 a2 a3
            rw [← hy] at b0' b1' b2' b3'
            have HX := Lib.hid hx
            have HY := Lib.hid hy
            clear hx hy
            go_region
            go_wp2
            go_roundw
            case rel => exact ⟨k1, swap hk j k1, rfl, by rw [length_swap]; exact c1, (HH2.out.swap_ hj c1 HX.out HY.out).drew, ((HO2.out.put4 (fun _ => rfl) _ _).put4 (fun _ => rfl) _ _).drew, hE.out.trans (by rw [down_step (show 2 * j + 1 < hk.length by have := HK1.out; omega) (by rw [HKID.out]; exact HT2.out), HKID.out]), by rw [length_swap]; exact HLEN.out⟩
            case measure => simp [intOf]; have := HLEN.out; omega
          · have ed : decide (lt (nth_ hk k1) (nth_ hk j)) = false := decide_eq_false t2
            have HED := Lib.hid ed
            have HT2 := Lib.hid t2
            clear ed t2
            go_wp2_with (first
              | (go_at_call 27; (with_reducible refine (less_any HHK.out k2 k1 c2 c1).mono ?_); rintro e w1 ⟨rfl, hO1⟩; rw [HD2.out]; have HH1 := Lib.hid (HHK.out.only hO1 id id); have HO1 := Lib.hid (HO.out.trans hO1 (fun _ _ h => h.elim)); have hf1 := HH1.out.fld; clear hO1)
              | (go_at_call 27; (with_reducible refine (less_any HH1.out k1 j c1 hj).mono ?_); rintro e w2 ⟨rfl, hO2⟩; rw [HED.out]; have HH2 := Lib.hid (HH1.out.only hO2 id id); have HO2 := Lib.hid (HO1.out.trans hO2 (fun _ _ h => h.elim)); have hf2 := HH2.out.fld; clear hO2))
            refine bodyPost_ret (results_none rfl _ _ _) rfl ?_
            exact ⟨rfl, by rw [hE.out, down_stop (fun hc => HT2.out (by rw [← HKID.out]; exact hc.2))]; exact ⟨HH2.out, HO2.out⟩⟩
      · have g2 : decide ((k2 : Int) < (hk.length : Int)) = false := decide_eq_false (by omega)
        have hkid : kid hk j = k1 := by rw [HKD.out]; exact if_neg (fun hc => c2 hc.1)
        have HKID := Lib.hid hkid
        clear hkid
        by_cases t2 : lt (nth_ hk k1) (nth_ hk j)
        · have ed : decide (lt (nth_ hk k1) (nth_ hk j)) = true := decide_eq_true t2
          have HED := Lib.hid ed
          have HT2 := Lib.hid t2
          clear ed t2
          go_wp2_with (first
            | (go_at_call 27; (with_reducible refine (less_any HHK.out k1 j c1 hj).mono ?_); rintro e w2 ⟨rfl, hO2⟩; rw [HED.out]; have HH2 := Lib.hid (HHK.out.only hO2 id id); have HO2 := Lib.hid (HO.out.trans hO2 (fun _ _ h => h.elim)); have hf2 := HH2.out.fld; clear hO2))
          clear hf  hf2
          obtain ⟨a0, a1, a2, a3⟩ := HH2.out.cells hj
          obtain ⟨b0', b1', b2', b3'⟩ := HH2.out.cells c1
          have hf := HH2.out.fld
          have ff : ∀ o, w2.frozen? ⟨g, o, none⟩ = false := fun o => HH2.out.row.free o
          obtain ⟨x, hx⟩ : ∃ x, x = nth_ hk j := ⟨_, rfl⟩
          obtain ⟨y, hy⟩ : ∃ y, y = nth_ hk k1 := ⟨_, rfl⟩
          rw [← hx] at a0 a1 a2 a3
          rw [← hy] at b0' b1' b2' b3'
          have HX := Lib.hid hx
          have HY := Lib.hid hy
          clear hx hy
          go_region
          go_wp2
          go_roundw
          case rel => exact ⟨k1, swap hk j k1, rfl, by rw [length_swap]; exact c1, (HH2.out.swap_ hj c1 HX.out HY.out).drew, ((HO2.out.put4 (fun _ => rfl) _ _).put4 (fun _ => rfl) _ _).drew, hE.out.trans (by rw [down_step (show 2 * j + 1 < hk.length by have := HK1.out; omega) (by rw [HKID.out]; exact HT2.out), HKID.out]), by rw [length_swap]; exact HLEN.out⟩
          case measure => simp [intOf]; have := HLEN.out; omega
        · have ed : decide (lt (nth_ hk k1) (nth_ hk j)) = false := decide_eq_false t2
          have HED := Lib.hid ed
          have HT2 := Lib.hid t2
          clear ed t2
          go_wp2_with (first
            | (go_at_call 27; (with_reducible refine (less_any HHK.out k1 j c1 hj).mono ?_); rintro e w2 ⟨rfl, hO2⟩; rw [HED.out]; have HH2 := Lib.hid (HHK.out.only hO2 id id); have HO2 := Lib.hid (HO.out.trans hO2 (fun _ _ h => h.elim)); have hf2 := HH2.out.fld; clear hO2))
          refine bodyPost_ret (results_none rfl _ _ _) rfl ?_
          exact ⟨rfl, by rw [hE.out, down_stop (fun hc => HT2.out (by rw [← HKID.out]; exact hc.2))]; exact ⟨HH2.out, HO2.out⟩⟩
    · go_wp2_with fail
      refine bodyPost_ret (results_none rfl _ _ _) rfl ?_
      exact ⟨rfl, by rw [hE.out, down_stop (fun hc => c1 (by have := HK1.out; omega))]; exact ⟨HHK.out, HO.out⟩⟩
end Go.Proofs.Ytbbihkddogbicaa
