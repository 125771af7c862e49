/- timers.find, Has. -/
import Derived.Test.YtbbihkddogbicaaWalks7
namespace Go.Proofs.Ytbbihkddogbicaa
open Go.RowKit
set_option linter.unusedVariables false
set_option linter.unusedSimpArgs false

section
variable {F : Nat → Prop} {w : World} {lo p most : Nat} {hp : List Tm} {vh : Value} {used : List Nat} {vu : Value} {taken : List Bool} {vt : Value} {set : Nat}

theorem owns_at {w : World} {lo e n i : Nat} {v u : Value} {xs : List Value} (h : w.ownsRow lo e 1 v n xs) (hi : i < n) (hu : xs[i]? = some u) :
    ∃ g cap, v = .slice (some ⟨g, 0, none⟩) n cap ∧ n ≤ cap ∧ cap ≤ maxLen ∧ v.ownBlock = some g ∧ w.cell? ⟨g, i, none⟩ = some u ∧ ∀ o, w.frozen? ⟨g, o, none⟩ = false := by
  obtain ⟨ao, cap, rfl, h1, h2, _, h4⟩ := ownsRow_slice h
  obtain ⟨g, rfl, hg⟩ := h4 (by omega)
  exact ⟨g, cap, rfl, h1, h2, hg, owns_cellD h hg hi u hu, fun o => owns_free h hg o⟩
theorem taken_get {l : List Bool} {i : Nat} {b : Bool} (hi : i < l.length) (h : l.getD i false = b) : (l.map Value.bool)[i]? = some (.bool b) := by
  rw [List.getElem?_map, List.getElem?_eq_getElem hi]
  rw [List.getD_eq_getElem?_getD, List.getElem?_eq_getElem hi] at h
  simpa using h
theorem used_get {l : List Nat} {i n : Nat} (hi : i < l.length) (h : l.getD i 0 = n) : (l.map fun n => Value.int .i64 (n : Nat))[i]? = some (.int .i64 n) := by
  rw [List.getElem?_map, List.getElem?_eq_getElem hi]
  rw [List.getD_eq_getElem?_getD, List.getElem?_eq_getElem hi] at h
  have h' : l[i] = n := by simpa using h
  simp [h']

theorem find_nil (hd : Int) (w : World) : Calls Try.prog 29 #[.pointer none, .int .i64 hd] w fun e w' => e = .returned (.int .i64 (-1)) ∧ w = w' := by
  go_enter Try.func29, Try.ntmps29
  go_wp2
  go_ret
  exact ⟨rfl, rfl⟩
theorem find_low (hd : Int) (q : Addr) (w : World) (h : hd < 4096) : Calls Try.prog 29 #[.pointer (some q), .int .i64 hd] w fun e w' => e = .returned (.int .i64 (-1)) ∧ w = w' := by
  go_enter Try.func29, Try.ntmps29
  go_wp2
  go_ret
  exact ⟨rfl, rfl⟩

set_option maxHeartbeats 400000 in
theorem find_yes (h : Tw F w lo p most hp vh used vu taken vt set) (hm : hp.length ≤ 4096) (hut : used.length = taken.length) (hul : used.length ≤ 4096) (hd : Int) (h4 : 4096 ≤ hd) (h5 : hd ≤ 9223372036854775807) (s a k : Nat) (e1 : hd % 4096 = (s : Int)) (e2 : hd / 4096 = (a : Int))
    (hs : s < used.length) (ht : taken.getD s false = true) (hu : used.getD s 0 = a) (hk : k < hp.length) (h0 : ∀ i, i < k → (nth_ hp i).slot ≠ s) (h1 : (nth_ hp k).slot = s) :
    Calls Try.prog 29 #[.pointer (some ⟨p, 0, none⟩), .int .i64 hd] w fun e w' => e = .returned (.int .i64 k) ∧ Only (fun _ => False) w w' := by
  obtain ⟨gt, ct, rfl, t1, t2, t3, t4, t5⟩ := owns_at h.taken_ (show s < taken.length by omega) (taken_get (by omega) ht)
  obtain ⟨gu, cu, rfl, u1, u2, u3, u4, u5⟩ := owns_at h.used_ hs (used_get hs hu)
  obtain ⟨g, cap, C, rfl, hH, hFg, _⟩ := h.hp_ hm (by omega)
  have hone : Only (fun _ => False) w (w.alloc (Obj.cells #[.int .i64 s] 3)) := (Only.refl _ _).alloc _
  have hnew : Blk (w.alloc (Obj.cells #[.int .i64 s] 3)) w.heap.size [.int .i64 s] 3 := Blk.new w [.int .i64 s] 3
  have T1 := h.only hone (fun _ _ => id)
  have H1' := hH.only hone id id
  have k4 := (World.cell?_of_block (a := ⟨gt, s, none⟩) (hone.block gt (ownsRow_lt h.taken_ gt t3).2 id)).trans t4
  have k5 := (World.cell?_of_block (a := ⟨gu, s, none⟩) (hone.block gu (ownsRow_lt h.used_ gu u3).2 id)).trans u4
  have c1 := T1.blk.cell 1 _ rfl
  have c2 := T1.blk.cell 2 _ rfl
  have c3 := T1.blk.cell 3 _ rfl
  have cn := hnew.cell 0 _ rfl
  have gn := hnew.lt
  have hsz : w.heap.size = w.heap.size := rfl
  have gd1 : decide ((used.length : Int) ≤ (s : Int)) = false := decide_eq_false (by omega)
  have gdN : decide (used.length ≤ s) = false := decide_eq_false (by omega)
  have sI : (0 : Int) ≤ (s : Int) := by omega
  have sU : (s : Int) < (used.length : Int) := by omega
  have sT : (s : Int) < (taken.length : Int) := by omega
  have HH := Lib.hid H1'
  have HO := Lib.hid hone
  have H0 := Lib.hid h0
  have H1 := Lib.hid h1
  clear h hH hone hnew T1 H1' t4 t5 u4 u5 t3 u3 ht hu h0 h1 hsz hut
  go_enter Try.func29, Try.ntmps29
  go_upto_region 4 with fail
  generalize hw : w.alloc (Obj.cells #[.int .i64 s] 3) = w1 at HH HO k4 k5 c1 c2 c3 cn gn ⊢
  obtain ⟨gs, hgs⟩ : ∃ gs, gs = w.heap.size := ⟨_, rfl⟩
  rw [← hgs] at cn gn ⊢
  clear hgs hw
  go_quiet (fail)
  have hH2 := HH.out.only ((Drawn.of w1 nq).only (fun _ => False)) id id
  have HH2 := Lib.hid hH2
  have cn2 : (w1.drewN nq).cell? ⟨gs, 0, none⟩ = some (.int .i64 s) := cn
  have gn2 : gs < (w1.drewN nq).heap.size := gn
  have CN2 := Lib.hid cn2
  have GN2 := Lib.hid gn2
  clear hH2 cn2 gn2
  go_wp2_with (go_at_call 35; (with_reducible refine (indexFunc_any HH2.out s gs CN2.out GN2.out k hk H0.out H1.out).mono ?_); rintro e w2 ⟨rfl, hO1⟩; have HO1 := Lib.hid hO1; clear hO1)
  go_ret
  exact ⟨rfl, (HO.out.drewN nq).trans HO1.out (fun _ _ h => h)⟩

/-- Why there is none. -/
inductive NoFind (used : List Nat) (taken : List Bool) (s a : Nat) : Prop
  | far (h : used.length ≤ s)
  | free (h : s < used.length) (ht : taken.getD s false = false)
  | old (h : s < used.length) (ht : taken.getD s false = true) (hu : used.getD s 0 ≠ a)

set_option maxHeartbeats 400000 in
theorem find_no (h : Tw F w lo p most hp vh used vu taken vt set) (hut : used.length = taken.length) (hul : used.length ≤ 4096) (hd : Int) (h4 : 4096 ≤ hd) (h5 : hd ≤ 9223372036854775807) (s a : Nat) (e1 : hd % 4096 = (s : Int)) (e2 : hd / 4096 = (a : Int))
    (hno : NoFind used taken s a) :
    Calls Try.prog 29 #[.pointer (some ⟨p, 0, none⟩), .int .i64 hd] w fun e w' => e = .returned (.int .i64 (-1)) ∧ Only (fun _ => False) w w' := by
  have hone : Only (fun _ => False) w (w.alloc (Obj.cells #[.int .i64 s] 3)) := (Only.refl _ _).alloc _
  have hnew : Blk (w.alloc (Obj.cells #[.int .i64 s] 3)) w.heap.size [.int .i64 s] 3 := Blk.new w [.int .i64 s] 3
  have T1 := h.only hone (fun _ _ => id)
  have cn := hnew.cell 0 _ rfl
  obtain ⟨gs, hgs⟩ : ∃ gs, gs = w.heap.size := ⟨_, rfl⟩
  have HGS := Lib.hid hgs
  clear hgs
  cases hno with
  | far hf =>
    obtain ⟨au, cu, rfl, u1, u2, _, _⟩ := ownsRow_slice h.used_
    have c2 := T1.blk.cell 2 _ rfl
    have gd1 : decide ((used.length : Int) ≤ (s : Int)) = true := decide_eq_true (by omega)
    have gdN : decide (used.length ≤ s) = true := decide_eq_true (by omega)
    have HO := Lib.hid hone
    clear h T1 hone hnew hut
    go_enter Try.func29, Try.ntmps29
    go_upto_region 4 with fail
    generalize hw : w.alloc (Obj.cells #[.int .i64 s] 3) = w1 at HO c2 cn ⊢
    rw [← HGS.out] at cn ⊢
    clear hw
    go_quiet (fail)
    go_wp2_with fail
    go_ret
    exact ⟨rfl, HO.out.drewN nq⟩
  | free hs ht =>
    obtain ⟨gt, ct, rfl, t1, t2, t3, t4, t5⟩ := owns_at h.taken_ (show s < taken.length by omega) (taken_get (by omega) ht)
    obtain ⟨au, cu, rfl, u1, u2, _, _⟩ := ownsRow_slice h.used_
    have k4 := (World.cell?_of_block (a := ⟨gt, s, none⟩) (hone.block gt (ownsRow_lt h.taken_ gt t3).2 id)).trans t4
    have c2 := T1.blk.cell 2 _ rfl
    have c3 := T1.blk.cell 3 _ rfl
    have gd1 : decide ((used.length : Int) ≤ (s : Int)) = false := decide_eq_false (by omega)
    have gdN : decide (used.length ≤ s) = false := decide_eq_false (by omega)
    have sI : (0 : Int) ≤ (s : Int) := by omega
    have sT : (s : Int) < (taken.length : Int) := by omega
    have sU : (s : Int) < (used.length : Int) := by omega
    have HO := Lib.hid hone
    clear h T1 hone hnew hut t3 t4 t5 ht
    go_enter Try.func29, Try.ntmps29
    go_upto_region 4 with fail
    generalize hw : w.alloc (Obj.cells #[.int .i64 s] 3) = w1 at HO c2 c3 k4 cn ⊢
    rw [← HGS.out] at cn ⊢
    clear hw
    go_quiet (fail)
    go_wp2_with fail
    go_ret
    exact ⟨rfl, HO.out.drewN nq⟩
  | old hs ht hu =>
    obtain ⟨gt, ct, rfl, t1, t2, t3, t4, t5⟩ := owns_at h.taken_ (show s < taken.length by omega) (taken_get (by omega) ht)
    obtain ⟨b, hb⟩ : ∃ b, used.getD s 0 = b := ⟨_, rfl⟩
    obtain ⟨gu, cu, rfl, u1, u2, u3, u4, u5⟩ := owns_at h.used_ hs (used_get hs hb)
    rw [hb] at hu
    have k4 := (World.cell?_of_block (a := ⟨gt, s, none⟩) (hone.block gt (ownsRow_lt h.taken_ gt t3).2 id)).trans t4
    have k5 := (World.cell?_of_block (a := ⟨gu, s, none⟩) (hone.block gu (ownsRow_lt h.used_ gu u3).2 id)).trans u4
    have c2 := T1.blk.cell 2 _ rfl
    have c3 := T1.blk.cell 3 _ rfl
    have gd1 : decide ((used.length : Int) ≤ (s : Int)) = false := decide_eq_false (by omega)
    have gdN : decide (used.length ≤ s) = false := decide_eq_false (by omega)
    have gd2 : ((b : Int) == (a : Int)) = false := beq_eq_false_iff_ne.2 (by omega)
    have gd3 : ((b : Int) != (a : Int)) = true := by simp [bne, gd2]
    have gd4 : (b == a) = false := beq_eq_false_iff_ne.2 hu
    have gd5 : (b != a) = true := by simp [bne, gd4]
    have sI : (0 : Int) ≤ (s : Int) := by omega
    have sT : (s : Int) < (taken.length : Int) := by omega
    have sU : (s : Int) < (used.length : Int) := by omega
    have HO := Lib.hid hone
    have HU := Lib.hid hu
    clear h T1 hone hnew hut t3 t4 t5 u3 u4 u5 ht hu hb
    go_enter Try.func29, Try.ntmps29
    go_upto_region 4 with fail
    generalize hw : w.alloc (Obj.cells #[.int .i64 s] 3) = w1 at HO c2 c3 k4 k5 cn ⊢
    rw [← HGS.out] at cn ⊢
    clear hw
    go_quiet (fail)
    go_wp2_with fail
    go_ret
    exact ⟨rfl, HO.out.drewN nq⟩
end
end Go.Proofs.Ytbbihkddogbicaa
