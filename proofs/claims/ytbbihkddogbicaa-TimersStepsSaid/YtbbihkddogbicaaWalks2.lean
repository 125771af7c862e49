/- timers.up. -/
import Derived.Test.YtbbihkddogbicaaWalks1
namespace Go.Proofs.Ytbbihkddogbicaa
open Go.RowKit
set_option linter.unusedVariables false
set_option linter.unusedSimpArgs false

abbrev lessV (p : Nat) : Value := .func (.func 27) #[.pointer (some ⟨p, 0, none⟩)] #[]

def UpPost (w w' : World) (p g cap : Nat) (h : List Tm) (C : List Value) : Prop := Hp w' p g cap h C ∧ Only (fun k => k = g) w w'

set_option maxRecDepth 100000 in
set_option maxHeartbeats 1600000 in
theorem up_any {w : World} {p g cap : Nat} {h : List Tm} {C : List Value} (H : Hp w p g cap h C) (i : Nat) (hi : i < h.length) :
    Calls Try.prog 26 #[.pointer (some ⟨p, 0, none⟩), .int .i64 i, lessV p] w fun e w' => e = .returned (.tuple #[]) ∧ UpPost w w' p g cap (up h i) C := by
  have HH := Lib.hid H
  clear H
  go_enter Try.func26, Try.ntmps26
  go_wp2
  go_loopw [1] (fun iv wr => ∃ (j : Nat) (hk : List Tm), iv = .int .i64 j ∧ j < hk.length ∧ Hp wr p g cap hk C ∧ Only (fun k => k = g) w wr ∧ Hid (up h i = up hk j)) (fun iv _ => (intOf iv).toNat)
  case atStart => exact ⟨i, h, rfl, hi, HH.out, Only.refl _ _, rfl⟩
  case round =>
    obtain ⟨j, hk, rfl, hj, hH, hO, hE⟩ := hrel
    have hle := hH.le
    have hmx := hH.max
    by_cases h0 : 0 < j
    · obtain ⟨q, hq⟩ : ∃ q, q = (j - 1) / 2 := ⟨_, rfl⟩
      have e1 : ((j : Int) - 1) / 2 = (q : Int) := by omega
      have hql : q < hk.length := by omega
      have hqj : q < j := by omega
      have e0 : decide ((0 : Int) < (j : Int)) = true := decide_eq_true (by omega)
      have HQ := Lib.hid hq
      have HHK := Lib.hid hH
      have HO := Lib.hid hO
      clear hq hH hO
      by_cases hl : lt (nth_ hk j) (nth_ hk q)
      · have ed : decide (lt (nth_ hk j) (nth_ hk q)) = true := decide_eq_true hl
        have HL := Lib.hid hl
        have HED := Lib.hid ed
        clear hl ed
        go_wp2_with (first
          | (go_at_call 27; (with_reducible refine (less_any HHK.out j q hj hql).mono ?_); rintro e w1 ⟨rfl, hO1⟩; rw [HED.out]; have HO1 := Lib.hid hO1; clear hO1))
        have hH1 := HHK.out.only HO1.out id id
        obtain ⟨a0, a1, a2, a3⟩ := hH1.cells hj
        obtain ⟨b0, b1, b2, b3⟩ := hH1.cells hql
        have hf := hH1.fld
        have ff : ∀ o, w1.frozen? ⟨g, o, none⟩ = false := fun o => hH1.row.free o
        have hh := hH1
        have HH1 := Lib.hid hh
        clear hH1 hh
        obtain ⟨x, hx⟩ : ∃ x, x = nth_ hk j := ⟨_, rfl⟩
        obtain ⟨y, hy⟩ : ∃ y, y = nth_ hk q := ⟨_, rfl⟩
        rw [← hx] at a0 a1 a2 a3
        rw [← hy] at b0 b1 b2 b3
        have HX := Lib.hid hx
        have HY := Lib.hid hy
        clear hx hy
        go_region
        go_wp2
        go_roundw
        case rel => exact ⟨q, swap hk j q, by rw [e1], by rw [length_swap]; exact hql, (HH1.out.swap_ hj hql HX.out HY.out).drew, ((HO.out.trans HO1.out (fun _ _ h => h.elim)).put4 (fun _ => rfl) _ _).put4 (fun _ => rfl) _ _ |>.drew, hE.out.trans (up_step h0 (by rw [← HQ.out]; exact HL.out) |>.trans (by rw [← HQ.out]))⟩
        case measure => simp [intOf]; omega
      · have ed : decide (lt (nth_ hk j) (nth_ hk q)) = false := decide_eq_false hl
        have hup : up hk j = hk := up_stop (fun hc => hl (by rw [HQ.out]; exact hc.2))
        have HUP := Lib.hid hup
        have HED := Lib.hid ed
        clear hl ed hup
        go_wp2_with (first
          | (go_at_call 27; (with_reducible refine (less_any HHK.out j q hj hql).mono ?_); rintro e w1 ⟨rfl, hO1⟩; rw [HED.out]; have HO1 := Lib.hid hO1; clear hO1))
        go_end0
        exact ⟨rfl, by rw [hE.out, HUP.out]; exact ⟨HHK.out.only HO1.out id id, HO.out.trans HO1.out (fun _ _ h => h.elim)⟩⟩
    · have hup : up hk j = hk := up_stop (fun hc => h0 hc.1)
      have HUP := Lib.hid hup
      have HHK := Lib.hid hH
      have HO := Lib.hid hO
      have e0 : decide ((0 : Int) < (j : Int)) = false := decide_eq_false (by omega)
      clear hup hH hO
      go_wp2_with fail
      go_end0
      exact ⟨rfl, by rw [hE.out, HUP.out]; exact ⟨HHK.out, HO.out⟩⟩
end Go.Proofs.Ytbbihkddogbicaa
