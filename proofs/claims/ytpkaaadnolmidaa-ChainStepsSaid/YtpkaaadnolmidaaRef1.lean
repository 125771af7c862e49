/- The reference's chain: New, Peek, Find. -/
import Derived.Test.YtpkaaadnolmidaaWalks4
import Derived.Test.YtpkaaadnolmidaaWalks6
import Derived.Test.YtpkaaadnolmidaaLib2
namespace Go.Proofs.Ytpkaaadnolmidaa
open Go.RowKit
set_option linter.unusedVariables false
set_option linter.unusedSimpArgs false

/-- A row of bytes that the call itself owns. -/
def Own (w : World) (lo : Nat) (v : Value) (L : List Int) : Prop := w.ownsRow lo 5 1 v L.length (bytes L)

/-- The reference's chain at block p: its row's value v, its bytes L. -/
structure Rc (w : World) (lo p : Nat) (v : Value) (bound high low : Nat) (L : List Int) (stop : Bool) : Prop where
  blk : Blk w p [.int .i64 bound, .int .i64 high, .int .i64 low, v, .bool stop] 42
  own : Own w lo v L
  max : L.length ≤ bound
  most : bound ≤ 1048576
  marks : low < high ∧ high ≤ bound
  lo_ : lo ≤ p

def rfoot (p : Nat) (v : Value) : Nat → Prop := fun k => k = p ∨ v.ownBlock = some k

theorem Rc.only {S : Nat → Prop} {w w' : World} {lo p : Nat} {v : Value} {bound high low : Nat} {L : List Int} {stop : Bool} (h : Rc w lo p v bound high low L stop) (ho : Only S w w') (hd : ∀ k, rfoot p v k → ¬ S k) :
    Rc w' lo p v bound high low L stop :=
  ⟨h.blk.only ho (hd p (.inl rfl)), owns_only h.own ho (fun k hk => hd k (.inr hk)), h.max, h.most, h.marks, h.lo_⟩
theorem Rc.drawn {w w' : World} {lo p : Nat} {v : Value} {bound high low : Nat} {L : List Int} {stop : Bool} (h : Rc w lo p v bound high low L stop) (hd : Drawn w w') : Rc w' lo p v bound high low L stop :=
  h.only (hd.only (fun _ => False)) (fun _ _ => id)
theorem Rc.lt {w : World} {lo p : Nat} {v : Value} {bound high low : Nat} {L : List Int} {stop : Bool} (h : Rc w lo p v bound high low L stop) : ∀ k, rfoot p v k → lo ≤ k ∧ k < w.heap.size := by
  rintro k (rfl | hk)
  · exact ⟨h.lo_, h.blk.lt⟩
  · exact ownsRow_lt h.own k hk
theorem Rc.ne {w : World} {lo p : Nat} {v : Value} {bound high low : Nat} {L : List Int} {stop : Bool} (h : Rc w lo p v bound high low L stop) : v.ownBlock ≠ some p := ownsRow_ne h.own h.blk (by decide)

theorem own_cell {w : World} {lo : Nat} {v : Value} {L : List Int} (h : Own w lo v L) {g : Nat} (hg : v.ownBlock = some g) (j : Nat) (hj : j < L.length) : w.cell? ⟨g, j, none⟩ = some (.int .u8 (L.getD j 0)) :=
  (ownsRow_cell h hg j hj).trans (bytes_get L j hj)

structure RNewPost (w w' : World) (bound high low : Nat) : Prop where
  rc : Rc w' w.heap.size w.heap.size (.slice none 0 0) bound high low [] false
  below : Below w.heap.size w w'
  size : w'.heap.size = w.heap.size + 1

set_option maxRecDepth 100000 in
theorem rnew_ok (w : World) (bound high low : Nat) (h : marksOk bound high low) :
    Calls Try.prog 9 #[.int .i64 bound, .int .i64 high, .int .i64 low] w fun e w' => e = .returned (.tuple #[.pointer (some ⟨w.heap.size, 0, none⟩), .int .i64 0]) ∧ RNewPost w w' bound high low := by
  obtain ⟨⟨h1, h2⟩, ⟨h3, h4⟩, h5, h6⟩ := h
  go_enter Try.func9, Try.ntmps9
  go_wp2
  go_ret2
  refine ⟨rfl, ⟨⟨?_, World.ownsRow_nil _ _ _ _, by simp, by omega, by omega, Nat.le_refl _⟩, (Below.refl _ _).alloc (Nat.le_refl _) _, by simp⟩⟩
  exact Blk.new w [.int .i64 bound, .int .i64 high, .int .i64 low, .slice none 0 0, .bool false] 42

set_option maxRecDepth 100000 in
theorem rnew_bad (w : World) (bound high low : Int) (h : ¬ marksOk bound high low) :
    Calls Try.prog 9 #[.int .i64 bound, .int .i64 high, .int .i64 low] w fun e w' => e = .returned (.tuple #[.pointer none, .int .i64 1]) ∧ w = w' := by
  rcases marks_bad h with h | ⟨h1, h2⟩ | ⟨⟨h1, h2⟩, h3⟩ | ⟨⟨h1, h2⟩, h3, h4⟩ | ⟨⟨⟨h1, h2⟩, h3, h4⟩, h5⟩ | ⟨⟨⟨h1, h2⟩, h3, h4⟩, h5, h6⟩
  all_goals
    go_enter Try.func9, Try.ntmps9
    go_wp2
    go_ret2
    exact ⟨rfl, rfl⟩

section
variable {w : World} {lo p : Nat} {v : Value} {bound high low : Nat} {L : List Int} {stop : Bool}

set_option maxHeartbeats 800000 in
theorem rfind_any (h : Rc w lo p v bound high low L stop) (x : Int) :
    Calls Try.prog 19 #[.pointer (some ⟨p, 0, none⟩), .int .u8 x] w fun e w' => e = .returned (.int .i64 (findI L x)) ∧ w = w' := by
  have h1 := h.max
  have h3 := h.most
  have c3 := h.blk.cell 3 _ rfl
  obtain ⟨ao, cap, rfl, hlc, hcm, hnil, hsome⟩ := ownsRow_slice h.own
  have H := Lib.hid h
  have HS := Lib.hid hsome
  clear h hsome hnil
  go_enter Try.func19, Try.ntmps19
  go_wp2
  go_loop [12] (fun i => ∃ k : Nat, k ≤ L.length ∧ i = .int .i64 k ∧ (∀ j, j < k → L.getD j 0 ≠ x)) (fun i => L.length - (intOf i).toNat)
  case atStart => exact ⟨0, Nat.zero_le _, rfl, fun j hj => absurd hj (Nat.not_lt_zero _)⟩
  case round =>
    obtain ⟨k, hk, rfl, hall⟩ := hrel
    have HA := Lib.hid hall
    clear hall
    by_cases hlt : k < L.length
    · obtain ⟨g, rfl, hg⟩ := HS.out (by omega)
      have cq := own_cell H.out.own hg k hlt
      obtain ⟨y, hy⟩ : ∃ y, y = L.getD k 0 := ⟨_, rfl⟩
      rw [← hy] at cq
      have HY := Lib.hid hy
      clear hy hg
      by_cases hxy : (x == y) = true
      · have hfi : findI L x = k := findI_at hlt HA.out (by rw [← HY.out]; exact (beq_iff_eq.1 hxy).symm)
        have HF := Lib.hid hfi
        clear hfi
        go_wp2
        go_ret
        exact ⟨ret_int (by rw [HF.out]), rfl⟩
      · have hxy1 : (x == y) = false := by simpa using hxy
        have hall2 : ∀ j, j < k + 1 → L.getD j 0 ≠ x := fun j hj => by
          rcases Nat.lt_or_ge j k with hjk | hjk
          · exact HA.out j hjk
          · rw [show j = k by omega, ← HY.out]
            exact Ne.symm (beq_eq_false_iff_ne.1 hxy1)
        have HA2 := Lib.hid hall2
        clear hxy hall2
        go_wp2
        go_round
        case rel => exact ⟨k + 1, by omega, by go_num, HA2.out⟩
        case measure => simp [intOf]; omega
    · have hfi : findI L x = -1 := findI_none fun i hi => HA.out i (by omega)
      have HF := Lib.hid hfi
      clear hfi
      go_wp2
      go_ret
      exact ⟨ret_int (by rw [HF.out]), rfl⟩
end
end Go.Proofs.Ytpkaaadnolmidaa
