/- The timers by what they hold: Cancel, Set, Fire. -/
import Derived.Test.YtbbihkddogbicaaWalks11
namespace Go.Proofs.Ytbbihkddogbicaa
open Go.RowKit
set_option linter.unusedVariables false
set_option linter.unusedSimpArgs false

section
variable {F : Nat → Prop} {w : World} {lo p most : Nat} {ts : List Tm} {used : List Nat} {set : Nat}

def TPost (F F' : Nat → Prop) (w w' : World) (lo p most : Nat) (ts : List Tm) (used : List Nat) (set : Nat) : Prop := TP F' w' lo p most ts used set ∧ Only F w w'

/-- One is taken out of the heap. -/
theorem take_tp {hp : List Tm} {vh vu vt : Value} (hT : Tw F w lo p most hp vh used vu (takenOf ts used.length) vt set) (h1 : hp.Perm ts) (h2 : IsHeap hp) (h3 : Ok most ts used set) (i : Nat) (hi : i < hp.length) :
    Calls Try.prog 30 #[.pointer (some ⟨p, 0, none⟩), .int .i64 i] w fun e w' => e = .returned (tmV (nth_ hp i)) ∧ TPost F F w w' lo p most (rest ts (nth_ hp i)) used set := by
  have hl := h1.length_eq
  have hlen := h3.len
  have hmost := h3.most_
  have hroom := h3.room
  have hx := h1.subset (nth_mem hi)
  have hsl := h3.slot _ hx
  refine (take_any hT (by omega) i hi (by rw [length_takenOf]; exact hsl) (by rw [length_takenOf]; omega)).mono ?_
  rintro e w' ⟨rfl, vh', hT', hO⟩
  refine ⟨rfl, ⟨_, vh', vu, vt, ?_, h3.rest_perm h1 (perm_take hp i hi), take_heap h2 i hi, h3.filter _⟩, hO⟩
  rw [h3.takenOf_rest hx]
  exact hT'

theorem tp_cancel (h : TP F w lo p most ts used set) (hd : Int) (h5 : hd ≤ 9223372036854775807) :
    Calls Try.prog 15 #[.pointer (some ⟨p, 0, none⟩), .int .i64 hd] w fun e w' => e = .returned (.bool (has ts hd)) ∧ TPost F F w w' lo p most (without ts hd) used set := by
  obtain ⟨hp, vh, vu, vt, hT, h1, h2, h3⟩ := h
  have HL := Lib.hid (show hp.length ≤ 4096 by have := h1.length_eq; have := h3.len; have := h3.most_; omega)
  have H := Lib.hid (find_any hT h1 h3 hd h5)
  have HT := Lib.hid (⟨hT, h1, h2, h3⟩ : _ ∧ _ ∧ _ ∧ _)
  clear hT h1 h2 h3
  go_enter Try.func15, Try.ntmps15
  go_wp2_with (go_at_call 29; (refine H.out.mono ?_); rintro e w1 ⟨hP, hO⟩; have HO := Lib.hid hO; clear hO; rcases hP with ⟨hf, rfl⟩ | ⟨k, hf, hk, hkh, rfl⟩)
  · have HF := Lib.hid hf
    clear hf
    go_wp2_with fail
    go_ret
    obtain ⟨hT, h1, h2, h3⟩ := HT.out
    exact ⟨ret_bool (by rw [HF.out]), ⟨hp, vh, vu, vt, by rw [without_none HF.out]; exact hT.only HO.out (fun _ _ => id), by rw [without_none HF.out]; exact h1, h2, by rw [without_none HF.out]; exact h3⟩, HO.out.mono (fun _ _ h => h.elim)⟩
  · have HF := Lib.hid hf
    have HKH := Lib.hid hkh
    have hkl : k ≤ 4096 := by have := HL.out; omega
    have HK := Lib.hid hk
    clear hf hkh hk
    have HC := Lib.hid (take_tp (HT.out.1.only HO.out (fun _ _ => id)) HT.out.2.1 HT.out.2.2.1 HT.out.2.2.2 k HK.out)
    go_wp2_with (go_at_call 30; (refine HC.out.mono ?_); rintro e w2 ⟨rfl, hP⟩; have HP := Lib.hid hP; clear hP)
    go_ret
    rw [HF.out, ← HKH.out, without_eq]
    exact ⟨rfl, HP.out.1, (HO.out.mono (fun _ _ h => h.elim)).trans HP.out.2 (fun _ _ h => h)⟩

theorem tp_set_full (h : TP F w lo p most ts used set) {at_ key : Int} (ha : 0 ≤ at_ ∧ at_ ≤ 4611686018427387904) (hf : ts.length = most) :
    Calls Try.prog 11 #[.pointer (some ⟨p, 0, none⟩), .int .i64 at_, .int .i64 key] w fun e w' => e = .returned (.tuple #[.int .i64 0, .int .i64 5]) ∧ Drawn w w' := by
  obtain ⟨hp, vh, vu, vt, hT, h1, h2, h3⟩ := h
  exact set_full ha key hT (by rw [h1.length_eq, hf])
theorem tp_set (h : TP F w lo p most ts used set) {at_ key : Int} (ha : 0 ≤ at_ ∧ at_ ≤ 4611686018427387904) (hf : ts.length < most) (hset : set ≤ 1125899906842624) :
    Calls Try.prog 11 #[.pointer (some ⟨p, 0, none⟩), .int .i64 at_, .int .i64 key] w fun e w' => e = .returned (.tuple #[.int .i64 (newOf ts used set at_ key).handle, .int .i64 0]) ∧
      TPost F (More F w w') w w' lo p most (ts ++ [newOf ts used set at_ key]) (usedOf ts used) (set + 1) := by
  obtain ⟨hp, vh, vu, vt, hT, h1, h2, h3⟩ := h
  have hl := h1.length_eq
  have hlen := h3.len
  have hmost := h3.most_
  have hroom := h3.room
  have hr1 := h3.room1 hf
  refine (set_any hT (by omega) (by omega) (by omega) (by omega) hset (fun i => used_le h3 i) ha).mono ?_
  rintro e w' ⟨rfl, vh', vu', vt', hT', hO⟩
  refine ⟨rfl, ⟨_, vh', vu', vt', ?_, (perm_push _ _).trans (h1.append_right _), push_heap h2 _, h3.add hf ha⟩, hO⟩
  rw [takenOf_set]
  exact hT'
end
end Go.Proofs.Ytbbihkddogbicaa
