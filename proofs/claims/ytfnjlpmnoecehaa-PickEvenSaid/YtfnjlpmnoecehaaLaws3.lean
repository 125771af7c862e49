/- PickEven: the walk of the law. -/
import Derived.Test.YtfnjlpmnoecehaaLaws1
namespace Go.Proofs.Ytfnjlpmnoecehaa
open Go.RowKit
set_option linter.unusedVariables false

def zeros : Array Value := Array.replicate 256 (.int .i64 0)
theorem zero34 (w : World) : (zeroValue 34).run Try.prog w = .ok (.agg zeros) w := by kernel_rfl

/-- The cells from this bound on are 0. -/
structure Seen (wr : World) (p bound : Nat) (zs : List Int) : Prop where
  len : zs.length = 256
  blk : Blk wr p (zs.map (Value.int .i64)) 34
  zero : ∀ t, bound ≤ t → t < 256 → zs.getD t 0 = 0

theorem Seen.cell {wr : World} {p bound : Nat} {zs : List Int} (h : Seen wr p bound zs) (t : Nat) (hb : bound ≤ t) (ht : t < 256) : wr.cell? ⟨p, t, none⟩ = some (.int .i64 0) := by
  have hz := h.zero t hb ht
  refine h.blk.cell t _ ?_
  have hl : t < zs.length := by rw [h.len]; exact ht
  rw [List.getD_eq_getElem?_getD, List.getElem?_eq_getElem hl] at hz
  simp only [Option.getD_some] at hz
  rw [List.getElem?_map, List.getElem?_eq_getElem hl, Option.map_some, hz]
theorem Seen.mono {wr : World} {p b b' : Nat} {zs : List Int} (h : Seen wr p b zs) (hb : b ≤ b') : Seen wr p b' zs := ⟨h.len, h.blk, fun t h1 h2 => h.zero t (by omega) h2⟩
theorem Seen.set {wr : World} {p b t : Nat} {zs : List Int} (h : Seen wr p b zs) (hb : b ≤ t) : Seen (wr.setCell ⟨p, t, none⟩ (.int .i64 1)) p (t + 1) (zs.set t 1) := by
  refine ⟨by rw [List.length_set]; exact h.len, ?_, fun q h1 h2 => ?_⟩
  · have := h.blk.set t (.int .i64 1)
    rwa [← List.map_set] at this
  · rw [List.getD_eq_getElem?_getD, List.getElem?_set_ne (by omega), ← List.getD_eq_getElem?_getD]
    exact h.zero q (by omega) h2
theorem Seen.drawn {wr w' : World} {p b : Nat} {zs : List Int} (h : Seen wr p b zs) (hd : Drawn wr w') : Seen w' p b zs := by
  obtain ⟨n, rfl⟩ := hd
  exact ⟨h.len, h.blk, h.zero⟩
theorem seen_start (w : World) : Seen (w.alloc (.cells zeros 34)) w.heap.size 0 (List.replicate 256 0) := by
  refine ⟨List.length_replicate, ?_, fun t _ ht => by rw [List.getD_eq_getElem?_getD, List.getElem?_replicate, if_pos ht]; rfl⟩
  have := Blk.new w (zeros.toList) 34
  rw [Array.toArray_toList] at this
  have e : (List.replicate 256 (0 : Int)).map (Value.int .i64) = zeros.toList := by unfold zeros; rw [List.map_replicate, Array.toList_replicate]
  rw [e]
  exact this

theorem tJ_at {n k l : Nat} (h1 : k < n) (h2 : l + 1 < n) : tI n k = k ∧ tJ n k l = ((if k ≤ l then l + 1 else l : Nat) : Int) := by
  have e1 : (k : Int) % (n : Int) = k := Int.emod_eq_of_lt (by omega) (by omega)
  have e2 : (l : Int) % ((n : Int) - 1) = l := Int.emod_eq_of_lt (by omega) (by omega)
  refine ⟨e1, ?_⟩
  unfold tJ
  rw [e1, e2]
  by_cases h : k ≤ l
  · rw [if_pos h, if_pos (by omega)]; rfl
  · rw [if_neg h, if_neg (by omega)]

set_option maxRecDepth 100000 in
set_option maxHeartbeats 800000 in
theorem even_walk (a0 : Int) (w : World) (w0 : (Lit.int .i64 a0).wf = true) :
    Calls Try.prog 4 #[.int .i64 a0] w fun e w' => e = .returned (.bool true) ∧ Below w.heap.size w w' := by
  clear w0
  by_cases hn : 2 ≤ a0 ∧ a0 ≤ 16
  · obtain ⟨n, rfl⟩ := Int.eq_ofNat_of_zero_le (show 0 ≤ a0 by omega)
    have hn0 : 2 ≤ n := by omega
    have hn1 : n ≤ 16 := by omega
    clear hn
    have hs0 := seen_start w
    have S0 := Lib.hid hs0
    clear hs0
    have hal := zero34
    go_enter Try.func4, Try.ntmps4
    go_wp2_with fail
    generalize hW : w.alloc (Obj.cells zeros 34) = W at S0 ⊢
    have hbel : Below w.heap.size w W := by rw [← hW]; exact (Below.refl _ _).alloc (Nat.le_refl _) _
    clear hW hal
    go_loopw [7] (fun i wr => ∃ (k : Nat) (zs : List Int), k ≤ n ∧ i = .int .i64 k ∧ Seen wr w.heap.size (16 * k) zs ∧ Below w.heap.size w wr) (fun i _ => n - (intOf i).toNat)
    case atStart => exact ⟨0, _, Nat.zero_le _, rfl, S0.out.mono (by omega), hbel⟩
    case round =>
      obtain ⟨k, zs, hk, rfl, hsn, hbl⟩ := hrel
      by_cases hlt : k < n
      · have HS := Lib.hid hsn
        have HB := Lib.hid hbl
        clear hsn hbl
        go_wp2_with fail
        go_loopw [8] (fun i wo => ∃ (l : Nat) (zs : List Int), l + 1 ≤ n ∧ i = .int .i64 l ∧ Seen wo w.heap.size (16 * k + (if l < k then l else l + 1)) zs ∧ Below w.heap.size w wo) (fun i _ => n - (intOf i).toNat)
        case atStart => exact ⟨0, _, by omega, rfl, HS.out.mono (by omega), HB.out⟩
        case round =>
          obtain ⟨l, ys, hl, rfl, hsn, hbl⟩ := hrel
          by_cases hlt2 : l + 1 < n
          · have ht := tJ_at hlt hlt2
            have i1 : isDraw (k : Int) := ⟨by omega, by omega⟩
            have i2 : isDraw (l : Int) := ⟨by omega, by omega⟩
            have t1 := fun W => two_ok (n : Int) k l W ⟨by omega, by omega⟩ i1 i2
            rw [ht.1, ht.2] at t1
            obtain ⟨j, hj⟩ : ∃ j, j = if k ≤ l then l + 1 else l := ⟨_, rfl⟩
            rw [← hj] at t1
            have hj1 : 16 * k + (if l < k then l else l + 1) = 16 * k + j := by
              rw [hj]
              split <;> split <;> omega
            have hj2 : (k ≤ l ∧ j = l + 1) ∨ (l < k ∧ j = l) := by
              rw [hj]
              split <;> omega
            rw [hj1] at hsn
            have hjn : j < n := by omega
            have hjk : ((k : Int) == (j : Int)) = false := beq_eq_false_iff_ne.2 (by omega)
            have hst : 16 * k + j + 1 ≤ 16 * k + (if l + 1 < k then l + 1 else l + 1 + 1) := by
              split <;> omega
            have HN := Lib.hid hst
            have T1 := Lib.hid t1
            have HS := Lib.hid hsn
            have HB := Lib.hid hbl
            have HJ := Lib.hid hj2
            clear t1 ht hsn hbl hj hj1 hj2 i1 i2 hst
            have hc := HS.out.cell (16 * k + j) (Nat.le_refl _) (by omega)
            have hf := HS.out.blk.free (16 * k + j)
            go_wp2_with (first
              | (go_at_call 7; (with_reducible refine (T1.out _).mono ?_); rintro e w1 ⟨rfl, n1, rfl⟩))
            go_roundw
            case rel => exact ⟨l + 1, _, by omega, by go_num, ((HS.out.drawn (Drawn.of _ n1)).set (Nat.le_refl _)).mono HN.out, below_only HB.out (((Only.refl (fun i => i = w.heap.size) wr).drewN n1).setCell (p := ⟨w.heap.size, 16 * k + j, none⟩) (fun _ => rfl) _) HB.out.size (fun i hi => by omega)⟩
            case measure => simp [intOf]; omega
          · go_wp2_with fail
            go_roundw
            case rel => exact ⟨k + 1, ys, by omega, by go_num, hsn.mono (by split <;> omega), hbl⟩
            case measure => simp [intOf]; omega
      · go_wp2_with (first
          | (go_at_call 11; (with_reducible refine (speaks_any _).mono ?_); rintro e w3 ⟨rfl, h3⟩))
        go_ret
        exact ⟨rfl, below_speaks hbl h3 hbl.size⟩
  · have e : twoI a0 0 0 = 0 ∧ twoJ a0 0 0 = 0 ∧ twoE a0 0 0 = 1 := by
      have hk : ¬ twoOk a0 0 0 := fun h => hn ⟨h.1.1, h.1.2⟩
      exact ⟨if_neg hk, if_neg hk, if_neg hk⟩
    have t1 := two_any a0 0 0 w
    rw [e.1, e.2.1, e.2.2] at t1
    have T1 := Lib.hid t1
    clear t1 e
    rcases (show a0 < 2 ∨ 16 < a0 by omega) with h | h
    all_goals
      go_enter Try.func4, Try.ntmps4
      go_wp2_with (first
        | (go_at_call 7; (with_reducible refine (T1.out).mono ?_); rintro e w1 ⟨rfl, d1⟩)
        | (go_at_call 11; (with_reducible refine (speaks_any w1).mono ?_); rintro e w3 ⟨rfl, h3⟩))
      go_ret
      exact ⟨rfl, below_speaks (d1.below _) h3 (d1.below 0).size⟩
end Go.Proofs.Ytfnjlpmnoecehaa
