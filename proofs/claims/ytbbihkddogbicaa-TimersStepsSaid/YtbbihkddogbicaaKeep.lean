/- What a law keeps between the calls: its timers and a row of numbers. -/
import Derived.Test.YtbbihkddogbicaaWalks14
namespace Go.Proofs.Ytbbihkddogbicaa
open Go.RowKit
set_option linter.unusedVariables false
set_option linter.unusedSimpArgs false

structure St (F : Nat → Prop) (w0 w : World) (p most : Nat) (ts : List Tm) (used : List Nat) (set : Nat) (v : Value) (l : List Int) : Prop where
  tp : TP F w w0.heap.size p most ts used set
  row : Ints w w0.heap.size v l
  below : Below w0.heap.size w0 w
  apart : ∀ k, v.ownBlock = some k → ¬ F k
def SM (w0 w : World) (p most : Nat) (ts : List Tm) (used : List Nat) (set : Nat) (v : Value) (l : List Int) : Prop := ∃ F, St F w0 w p most ts used set v l

section
variable {F : Nat → Prop} {w0 w : World} {p most : Nat} {ts : List Tm} {used : List Nat} {set : Nat} {v : Value} {l : List Int}

theorem St.next {F' : Nat → Prop} {w' : World} {ts' : List Tm} {used' : List Nat} {set' : Nat} (h : St F w0 w p most ts used set v l) (ht : TP F' w' w0.heap.size p most ts' used' set') (ho : Only F w w') (hF : ∀ k, F' k → F k ∨ w.heap.size ≤ k) :
    St F' w0 w' p most ts' used' set' v l :=
  ⟨ht, owns_only h.row ho h.apart, below_only h.below ho h.below.size (fun k hk => (h.tp.lt k hk).1),
    fun k hk hf => (hF k hf).elim (h.apart k hk) (fun hh => by have := (ownsRow_lt h.row k hk).2; omega)⟩
theorem SM.ok (h : SM w0 w p most ts used set v l) : Ok most ts used set := by obtain ⟨F, h⟩ := h; exact h.tp.ok
theorem SM.irow (h : SM w0 w p most ts used set v l) : IRow w v l := by obtain ⟨F, h⟩ := h; exact h.row.irow
theorem SM.below (h : SM w0 w p most ts used set v l) : Below w0.heap.size w0 w := by obtain ⟨F, h⟩ := h; exact h.below
theorem SM.size (h : SM w0 w p most ts used set v l) : w0.heap.size ≤ w.heap.size := h.below.size
theorem SM.only {w' : World} (h : SM w0 w p most ts used set v l) (ho : Only (fun _ => False) w w') : SM w0 w' p most ts used set v l := by
  obtain ⟨F, h⟩ := h
  exact ⟨F, h.next (h.tp.only ho (fun _ _ h => h)) (ho.mono (fun _ _ h => h.elim)) (fun k hk => .inl hk)⟩
theorem SM.drawn {w' : World} (h : SM w0 w p most ts used set v l) (hd : Drawn w w') : SM w0 w' p most ts used set v l := h.only (hd.only _)
theorem SM.row (h : SM w0 w p most ts used set v l) : w.ownsRow w0.heap.size 3 1 v l.length (ints l) := by obtain ⟨F, h⟩ := h; exact h.row

theorem tp_new {w w' : World} (h1 : 1 ≤ most ∧ most ≤ 4096) (h : NewPost w w' most) : TP (fun k => k = w.heap.size) w' w.heap.size w.heap.size most [] [] 0 :=
  ⟨[], .slice none 0 0, .slice none 0 0, .slice none 0 0, h.tw, List.Perm.refl _, (fun i hi hl => absurd hl (by simp)), Ok.new h1⟩
theorem sm_new (w : World) (m : Int) (most : Nat) (e : m = most) (h : 1 ≤ most ∧ most ≤ 4096) :
    Calls Try.prog 8 #[.int .i64 m] w fun e w' => e = .returned (.tuple #[.pointer (some ⟨w.heap.size, 0, none⟩), .int .i64 0]) ∧ SM w w' w.heap.size most [] [] 0 (.slice none 0 0) [] := by
  subst e
  refine (new_ok w most h).mono ?_
  rintro e w' ⟨rfl, hN⟩
  exact ⟨rfl, _, ⟨tp_new h hN, World.ownsRow_nil _ _ _ _, hN.below, fun k hk => by cases hk⟩⟩

theorem sm_set (h : SM w0 w p most ts used set v l) {at_ key : Int} (ha : 0 ≤ at_ ∧ at_ ≤ 4611686018427387904) (hf : ts.length < most) (hset : set ≤ 1125899906842624) :
    Calls Try.prog 11 #[.pointer (some ⟨p, 0, none⟩), .int .i64 at_, .int .i64 key] w fun e w' => e = .returned (.tuple #[.int .i64 (newOf ts used set at_ key).handle, .int .i64 0]) ∧
      SM w0 w' p most (ts ++ [newOf ts used set at_ key]) (usedOf ts used) (set + 1) v l := by
  obtain ⟨F, h⟩ := h
  refine (tp_set h.tp ha hf hset).mono ?_
  rintro e w' ⟨rfl, hP⟩
  exact ⟨rfl, _, h.next hP.1 hP.2 (fun k hk => hk.imp id (fun h => h.1))⟩
theorem sm_set_full (h : SM w0 w p most ts used set v l) {at_ key : Int} (ha : 0 ≤ at_ ∧ at_ ≤ 4611686018427387904) (hf : ts.length = most) :
    Calls Try.prog 11 #[.pointer (some ⟨p, 0, none⟩), .int .i64 at_, .int .i64 key] w fun e w' => e = .returned (.tuple #[.int .i64 0, .int .i64 5]) ∧ SM w0 w' p most ts used set v l := by
  have H := h
  obtain ⟨F, h⟩ := h
  refine (tp_set_full h.tp ha hf).mono ?_
  rintro e w' ⟨rfl, hP⟩
  exact ⟨rfl, H.drawn hP⟩
theorem sm_len (h : SM w0 w p most ts used set v l) : Calls Try.prog 22 #[.pointer (some ⟨p, 0, none⟩)] w fun e w' => e = .returned (.int .i64 ts.length) ∧ w = w' := by
  obtain ⟨F, h⟩ := h
  exact tp_len h.tp
theorem sm_next_some (h : SM w0 w p most ts used set v l) (hne : ts ≠ []) :
    Calls Try.prog 20 #[.pointer (some ⟨p, 0, none⟩)] w fun e w' => e = .returned (.tuple #[.int .i64 (firstL ts).at_, .bool true]) ∧ w = w' := by
  obtain ⟨F, h⟩ := h
  exact tp_next_some h.tp hne
theorem sm_next_none (h : SM w0 w p most [] used set v l) :
    Calls Try.prog 20 #[.pointer (some ⟨p, 0, none⟩)] w fun e w' => e = .returned (.tuple #[.int .i64 0, .bool false]) ∧ w = w' := by
  obtain ⟨F, h⟩ := h
  exact tp_next_none h.tp
theorem sm_has (h : SM w0 w p most ts used set v l) (hd : Int) (h5 : hd ≤ 9223372036854775807) :
    Calls Try.prog 13 #[.pointer (some ⟨p, 0, none⟩), .int .i64 hd] w fun e w' => e = .returned (.bool (has ts hd)) ∧ Only (fun _ => False) w w' := by
  obtain ⟨F, h⟩ := h
  exact tp_has h.tp hd h5
theorem sm_cancel (h : SM w0 w p most ts used set v l) (hd : Int) (h5 : hd ≤ 9223372036854775807) :
    Calls Try.prog 15 #[.pointer (some ⟨p, 0, none⟩), .int .i64 hd] w fun e w' => e = .returned (.bool (has ts hd)) ∧ SM w0 w' p most (without ts hd) used set v l := by
  obtain ⟨F, h⟩ := h
  refine (tp_cancel h.tp hd h5).mono ?_
  rintro e w' ⟨rfl, hP⟩
  exact ⟨rfl, F, h.next hP.1 hP.2 (fun k hk => .inl hk)⟩
theorem sm_fire (h : SM w0 w p most ts used set v l) (now : Int) :
    Calls Try.prog 18 #[.pointer (some ⟨p, 0, none⟩), .int .i64 now] w fun e w' => ∃ r, e = .returned r ∧ IRow w' r ((fire now ts).map (·.key)) ∧ SM w0 w' p most (stay now ts) used set v l := by
  obtain ⟨F, h⟩ := h
  refine (tp_fire h.tp now).mono ?_
  rintro e w' ⟨r, rfl, hP⟩
  exact ⟨r, rfl, hP.row.irow, F, h.next hP.tp hP.only (fun k hk => .inl hk)⟩
/-- The row that fired is kept in the other one's place. -/
theorem sm_fire_keep (h : SM w0 w p most ts used set v l) (now : Int) :
    Calls Try.prog 18 #[.pointer (some ⟨p, 0, none⟩), .int .i64 now] w fun e w' => ∃ r, e = .returned r ∧ SM w0 w' p most (stay now ts) used set r ((fire now ts).map (·.key)) := by
  obtain ⟨F, h⟩ := h
  refine (tp_fire h.tp now).mono ?_
  rintro e w' ⟨r, rfl, hP⟩
  have h2 := h.next hP.tp hP.only (fun k hk => .inl hk)
  exact ⟨r, rfl, F, h2.tp, ownsRow_lower hP.row h.below.size, h2.below, fun k hk hf => by have := (ownsRow_lt hP.row k hk).1; have := (h.tp.lt k hf).2; omega⟩
theorem SM.app {o : Obj} {w2 : World} {v2 : Value} {x : Int} (h : SM w0 w p most ts used set v l) (hown : w2.ownsRow w0.heap.size 3 1 v2 (l.length + 1) (ints l ++ [.int .i64 x]))
    (hon : Only (fun k => v.ownBlock = some k) (w.alloc o) w2) (hat : v2.ownBlock = v.ownBlock ∨ v2.ownBlock = some (w.heap.size + 1)) : SM w0 w2 p most ts used set v2 (l ++ [x]) := by
  obtain ⟨F, h⟩ := h
  have ho : Only (fun k => v.ownBlock = some k) w w2 := ((Only.refl _ w).alloc o).trans hon (fun _ _ h => h)
  refine ⟨F, h.tp.only ho (fun k hk e => h.apart k e hk), ?_, below_only h.below ho h.below.size (fun k hk => (ownsRow_lt h.row k hk).1), fun k hk hf => ?_⟩
  · unfold Ints ints at *
    rw [List.length_append, List.length_singleton, List.map_append]
    exact hown
  · rcases hat with e | e
    · exact h.apart k (by rw [← e]; exact hk) hf
    · rw [e] at hk
      injection hk with hk
      have := (h.tp.lt k hf).2
      omega
end
end Go.Proofs.Ytbbihkddogbicaa
