/- The timers by what they hold (TP): Next, Len, find, Has, Cancel. -/
import Derived.Test.YtbbihkddogbicaaWalks10
namespace Go.Proofs.Ytbbihkddogbicaa
open Go.RowKit
set_option linter.unusedVariables false
set_option linter.unusedSimpArgs false

/-- The timers at block p hold ts. -/
def TP (F : Nat → Prop) (w : World) (lo p most : Nat) (ts : List Tm) (used : List Nat) (set : Nat) : Prop :=
  ∃ hp vh vu vt, Tw F w lo p most hp vh used vu (takenOf ts used.length) vt set ∧ hp.Perm ts ∧ IsHeap hp ∧ Ok most ts used set

section
variable {F : Nat → Prop} {w : World} {lo p most : Nat} {ts : List Tm} {used : List Nat} {set : Nat}

theorem TP.ok (h : TP F w lo p most ts used set) : Ok most ts used set := by obtain ⟨_, _, _, _, _, _, _, h⟩ := h; exact h
theorem TP.lt (h : TP F w lo p most ts used set) : ∀ k, F k → lo ≤ k ∧ k < w.heap.size := by obtain ⟨_, _, _, _, h, _⟩ := h; exact h.lt
theorem TP.at_p (h : TP F w lo p most ts used set) : F p := by obtain ⟨_, _, _, _, h, _⟩ := h; exact h.foot p (.inl rfl)
theorem TP.only {S : Nat → Prop} {w' : World} (h : TP F w lo p most ts used set) (ho : Only S w w') (hd : ∀ k, F k → ¬ S k) : TP F w' lo p most ts used set := by
  obtain ⟨hp, vh, vu, vt, hT, h1, h2, h3⟩ := h
  exact ⟨hp, vh, vu, vt, hT.only ho hd, h1, h2, h3⟩
theorem TP.foots {F' : Nat → Prop} (h : TP F w lo p most ts used set) (hF : ∀ k, F k → F' k) (hl : ∀ k, F' k → lo ≤ k ∧ k < w.heap.size) : TP F' w lo p most ts used set := by
  obtain ⟨hp, vh, vu, vt, hT, h1, h2, h3⟩ := h
  exact ⟨hp, vh, vu, vt, hT.foots hF hl, h1, h2, h3⟩

theorem tp_len (h : TP F w lo p most ts used set) : Calls Try.prog 22 #[.pointer (some ⟨p, 0, none⟩)] w fun e w' => e = .returned (.int .i64 ts.length) ∧ w = w' := by
  obtain ⟨hp, vh, vu, vt, hT, h1, h2, h3⟩ := h
  rw [← h1.length_eq]
  exact len_any hT
theorem tp_next_some (h : TP F w lo p most ts used set) (hne : ts ≠ []) :
    Calls Try.prog 20 #[.pointer (some ⟨p, 0, none⟩)] w fun e w' => e = .returned (.tuple #[.int .i64 (firstL ts).at_, .bool true]) ∧ w = w' := by
  obtain ⟨hp, vh, vu, vt, hT, h1, h2, h3⟩ := h
  rw [← h3.root_first h1 h2 hne]
  have hl := h1.length_eq
  have := List.length_pos_iff.2 hne
  have := h3.len
  have := h3.most_
  exact next_some hT (by omega) (by omega)
theorem tp_next_none (h : TP F w lo p most [] used set) :
    Calls Try.prog 20 #[.pointer (some ⟨p, 0, none⟩)] w fun e w' => e = .returned (.tuple #[.int .i64 0, .bool false]) ∧ w = w' := by
  obtain ⟨hp, vh, vu, vt, hT, h1, h2, h3⟩ := h
  exact next_none hT (by rw [h1.length_eq]; rfl)

/-- What find tells. -/
def FindPost (ts hp : List Tm) (hd : Int) (e : Ending) : Prop :=
  (has ts hd = false ∧ e = .returned (.int .i64 (-1))) ∨ ∃ k : Nat, has ts hd = true ∧ k < hp.length ∧ ((nth_ hp k).handle : Int) = hd ∧ e = .returned (.int .i64 k)

theorem find_any {hp : List Tm} {vh vu vt : Value} (hT : Tw F w lo p most hp vh used vu (takenOf ts used.length) vt set) (h1 : hp.Perm ts) (h3 : Ok most ts used set) (hd : Int) (h5 : hd ≤ 9223372036854775807) :
    Calls Try.prog 29 #[.pointer (some ⟨p, 0, none⟩), .int .i64 hd] w fun e w' => FindPost ts hp hd e ∧ Only (fun _ => False) w w' := by
  have hl := h1.length_eq
  have hlen := h3.len
  have hmost := h3.most_
  have hroom := h3.room
  by_cases h4 : hd < 4096
  · refine (find_low hd _ w h4).mono ?_
    rintro e w' ⟨rfl, rfl⟩
    refine ⟨.inl ⟨?_, rfl⟩, Only.refl _ _⟩
    rw [← Bool.not_eq_true]
    intro hh
    obtain ⟨t, ht, e⟩ := has_iff.1 hh
    have := h3.handle_pos ht
    omega
  · obtain ⟨s, hs⟩ : ∃ s : Nat, hd % 4096 = (s : Int) := ⟨(hd % 4096).toNat, by omega⟩
    obtain ⟨a, ha⟩ : ∃ a : Nat, hd / 4096 = (a : Int) := ⟨(hd / 4096).toNat, by omega⟩
    by_cases hh : has ts hd = true
    · obtain ⟨t, ht, e⟩ := has_iff.1 hh
      have hm := h3.handle_mod ht
      have hts : t.slot = s := by omega
      have hta : t.age = a := by omega
      have hsl := h3.slot t ht
      have hage := h3.age t ht
      have hf : ∃ y ∈ hp, (y.slot == s) = true := ⟨t, h1.symm.subset ht, by simpa using hts⟩
      have hk : hp.findIdx (fun y => y.slot == s) < hp.length := List.findIdx_lt_length.2 hf
      have hk1 := List.findIdx_getElem (p := fun y : Tm => y.slot == s) (w := hk)
      have hk2 : (nth_ hp (hp.findIdx fun y => y.slot == s)).slot = s := by rw [nth_eq hk]; simpa using hk1
      have hk3 : nth_ hp (hp.findIdx fun y => y.slot == s) = t := h3.slot_inj (h1.subset (nth_mem hk)) ht (by rw [hk2, hts])
      refine (find_yes hT (by omega) (by simp) (by omega) hd (by omega) h5 s a _ hs ha (by omega) ?_ ?_ hk (fun i hi => ?_) hk2).mono ?_
      · rw [takenOf_getD (by omega)]
        exact busy_iff.2 ⟨t, ht, hts⟩
      · rw [← hts, hage, hta]
      · have := List.not_of_lt_findIdx hi
        rw [nth_eq (by omega)]
        simpa using this
      · rintro e w' ⟨rfl, ho⟩
        exact ⟨.inr ⟨_, hh, hk, by rw [hk3]; omega, rfl⟩, ho⟩
    · have hhf : has ts hd = false := by simpa using hh
      refine (find_no hT (by simp) (by omega) hd (by omega) h5 s a hs ha ?_).mono ?_
      · by_cases c1 : used.length ≤ s
        · exact .far c1
        · by_cases c2 : busy ts s = true
          · refine .old (by omega) (by rw [takenOf_getD (by omega)]; exact c2) (fun c3 => ?_)
            obtain ⟨t, ht, hts⟩ := busy_iff.1 c2
            have hage := h3.age t ht
            rw [hts, c3] at hage
            refine hh (has_iff.2 ⟨t, ht, ?_⟩)
            unfold Tm.handle
            omega
          · exact .free (by omega) (by rw [takenOf_getD (by omega)]; simpa using c2)
      · rintro e w' ⟨rfl, ho⟩
        exact ⟨.inl ⟨hhf, rfl⟩, ho⟩

theorem has_nil (hd : Int) (w : World) : Calls Try.prog 13 #[.pointer none, .int .i64 hd] w fun e w' => e = .returned (.bool false) ∧ w = w' := by
  go_enter Try.func13, Try.ntmps13
  go_wp2_with (go_at_call 29; (with_reducible refine (find_nil hd _).mono ?_); rintro e w' ⟨rfl, rfl⟩)
  go_ret
  exact ⟨rfl, rfl⟩
theorem cancel_nil (hd : Int) (w : World) : Calls Try.prog 15 #[.pointer none, .int .i64 hd] w fun e w' => e = .returned (.bool false) ∧ w = w' := by
  go_enter Try.func15, Try.ntmps15
  go_wp2_with (go_at_call 29; (with_reducible refine (find_nil hd _).mono ?_); rintro e w' ⟨rfl, rfl⟩)
  go_ret
  exact ⟨rfl, rfl⟩

theorem tp_has (h : TP F w lo p most ts used set) (hd : Int) (h5 : hd ≤ 9223372036854775807) :
    Calls Try.prog 13 #[.pointer (some ⟨p, 0, none⟩), .int .i64 hd] w fun e w' => e = .returned (.bool (has ts hd)) ∧ Only (fun _ => False) w w' := by
  obtain ⟨hp, vh, vu, vt, hT, h1, h2, h3⟩ := h
  have H := Lib.hid (find_any hT h1 h3 hd h5)
  clear hT h1 h2 h3
  go_enter Try.func13, Try.ntmps13
  go_wp2_with (go_at_call 29; (refine H.out.mono ?_); rintro e w' ⟨hP, hO⟩; have HO := Lib.hid hO; clear hO; rcases hP with ⟨hf, rfl⟩ | ⟨k, hf, _, _, rfl⟩)
  · have HF := Lib.hid hf
    clear hf
    go_wp2_with fail
    go_ret
    exact ⟨ret_bool (by rw [HF.out]), HO.out⟩
  · have HF := Lib.hid hf
    clear hf
    go_wp2_with fail
    go_ret
    exact ⟨ret_bool (by rw [HF.out]), HO.out⟩
end
end Go.Proofs.Ytbbihkddogbicaa
