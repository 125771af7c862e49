/- The reference's timers: first, Next. -/
import Derived.Test.YtbbihkddogbicaaRef2
namespace Go.Proofs.Ytbbihkddogbicaa
open Go.RowKit
set_option linter.unusedVariables false
set_option linter.unusedSimpArgs false

theorem least_take (o : Tm) (ts : List Tm) (j : Nat) (hj : j < ts.length) : least o (ts.take (j + 1)) = if (nth_ ts j).at_ < (least o (ts.take j)).at_ then nth_ ts j else least o (ts.take j) := by
  unfold least
  rw [List.take_succ_eq_append_getElem hj, List.foldl_append, nth_eq hj]
  rfl
theorem least_all {ts : List Tm} (h : 0 < ts.length) : least (nth_ ts 0) ts = firstL ts := by
  cases ts with
  | nil => simp at h
  | cons t r =>
    show least t (t :: r) = least t r
    show List.foldl _ (if t.at_ < t.at_ then t else t) r = _
    rw [if_neg (by omega)]
    rfl

section
variable {F : Nat → Prop} {w : World} {lo p most : Nat} {ts : List Tm} {vl : Value} {used : List Nat} {vg : Value}

abbrev rtV (t : Tm) : Value := .agg #[.int .i64 t.at_, .int .i64 t.key, .int .i64 t.handle]
def put3 (w : World) (g : Nat) (t : Tm) : World := ((w.setCell ⟨g, 0, none⟩ (.int .i64 t.at_)).setCell ⟨g, 1, none⟩ (.int .i64 t.key)).setCell ⟨g, 2, none⟩ (.int .i64 t.handle)
theorem Blk.put3 {w : World} {g t : Nat} {a b c : Value} (h : Blk w g [a, b, c] t) (x : Tm) : Blk (put3 w g x) g (rtC x) t := ((h.set 0 _).set 1 _).set 2 _
theorem Only.put3 {S : Nat → Prop} {a b : World} (h : Only S a b) {g : Nat} (hg : g < a.heap.size → S g) (x : Tm) : Only S a (put3 b g x) :=
  ((h.setCell (p := ⟨g, 0, none⟩) hg _).setCell (p := ⟨g, 1, none⟩) hg _).setCell (p := ⟨g, 2, none⟩) hg _

set_option maxRecDepth 100000 in
set_option maxHeartbeats 800000 in
theorem r_first (h : Tr F w lo p most ts vl used vg) (hm : ts.length ≤ 4096) (h0 : 0 < ts.length) :
    Calls Try.prog 31 #[.pointer (some ⟨p, 0, none⟩)] w fun e w' => e = .returned (rtV (firstL ts)) ∧ Only (fun _ => False) w w' := by
  obtain ⟨g, cap, rfl, hlc, hFg, z0, z1, z2⟩ := h.at_ h0
  have hpl := h.blk.lt
  have hgl := (h.lt g hFg).2
  have c1 := h.blk.cell 1 _ rfl
  obtain ⟨y, hy⟩ : ∃ y, y = nth_ ts 0 := ⟨_, rfl⟩
  rw [← hy] at z0 z1 z2
  have o1 : Only (fun _ => False) w ((w.alloc (Obj.cells #[.int .i64 0, .int .i64 0, .int .i64 0] 60)).alloc (Obj.cells #[.int .i64 y.at_, .int .i64 y.key, .int .i64 y.handle] 60)) := ((Only.refl _ _).alloc _).alloc _
  have b0 : Blk ((w.alloc (Obj.cells #[.int .i64 0, .int .i64 0, .int .i64 0] 60)).alloc (Obj.cells #[.int .i64 y.at_, .int .i64 y.key, .int .i64 y.handle] 60)) w.heap.size [.int .i64 0, .int .i64 0, .int .i64 0] 60 := (Blk.new w [.int .i64 0, .int .i64 0, .int .i64 0] 60).alloc _
  have b1 : Blk ((w.alloc (Obj.cells #[.int .i64 0, .int .i64 0, .int .i64 0] 60)).alloc (Obj.cells #[.int .i64 y.at_, .int .i64 y.key, .int .i64 y.handle] 60)) (w.heap.size + 1) (rtC y) 60 := by
    have := Blk.new (w.alloc (Obj.cells #[.int .i64 0, .int .i64 0, .int .i64 0] 60)) (rtC y) 60
    rw [World.size_alloc] at this
    exact this
  have HO1 := Lib.hid o1
  have B0 := Lib.hid b0
  have B1 := Lib.hid b1
  have H := Lib.hid h
  have HY := Lib.hid hy
  clear o1 b0 b1 h hy
  go_enter Try.func31, Try.ntmps31
  go_upto_region 2 with fail
  generalize (w.alloc (Obj.cells #[.int .i64 0, .int .i64 0, .int .i64 0] 60)).alloc (Obj.cells #[.int .i64 y.at_, .int .i64 y.key, .int .i64 y.handle] 60) = w1 at HO1 B0 B1 ⊢
  obtain ⟨r0, hr0⟩ : ∃ r, r = w.heap.size := ⟨_, rfl⟩
  obtain ⟨r1, hr1⟩ : ∃ r, r = w.heap.size + 1 := ⟨_, rfl⟩
  rw [← hr1] at B1 ⊢
  rw [← hr0] at B0 ⊢
  have n01 : r0 ≠ r1 := by omega
  have HR := Lib.hid (show r0 = w.heap.size ∧ r1 = w.heap.size + 1 from ⟨hr0, hr1⟩)
  clear hr0 hr1 z0 z1 z2
  have d1 := (World.cell?_of_block (a := ⟨p, 1, none⟩) (HO1.out.block p H.out.blk.lt id)).trans c1
  clear c1
  go_wp2
  go_loopw [5, 17] (fun _ i wr => ∃ j : Nat, j ≤ ts.length ∧ i = .int .i64 j ∧ Only (fun _ => False) w wr ∧ Blk wr r0 [.int .i64 0, .int .i64 0, .int .i64 0] 60 ∧ Blk wr r1 (rtC (least y (ts.take j))) 60) (fun _ i _ => ts.length - (intOf i).toNat)
  case atStart => exact ⟨0, Nat.zero_le _, rfl, HO1.out, B0.out, B1.out⟩
  case round =>
    obtain ⟨j, hj, rfl, hO, hb0, hb1⟩ := hrel
    obtain ⟨u, hu⟩ : ∃ u, u = least y (ts.take j) := ⟨_, rfl⟩
    rw [← hu] at hb1
    have l0 := hb0.lt
    have l1 := hb1.lt
    by_cases hlt : j < ts.length
    · obtain ⟨g', cap', e, _, _, a0, a1, a2⟩ := (H.out.only hO (fun _ _ => id)).at_ hlt
      injection e with e1 _ e3
      injection e1 with e1
      injection e1 with e1 _ _
      subst e1 e3
      obtain ⟨x, hx⟩ : ∃ x, x = nth_ ts j := ⟨_, rfl⟩
      rw [← hx] at a0 a1 a2
      have hlt2 := least_take y ts j hlt
      rw [← hx, ← hu] at hlt2
      have hO2 := hO.alloc (Obj.cells #[.int .i64 x.at_, .int .i64 x.key, .int .i64 x.handle] 60)
      have hb0' := hb0.alloc (Obj.cells #[.int .i64 x.at_, .int .i64 x.key, .int .i64 x.handle] 60)
      have hb1' := hb1.alloc (Obj.cells #[.int .i64 x.at_, .int .i64 x.key, .int .i64 x.handle] 60)
      have u0 := hb1'.cell 0 _ rfl
      have u1 := hb1'.cell 1 _ rfl
      have u2 := hb1'.cell 2 _ rfl
      have uf : ∀ o, (wr.alloc (Obj.cells #[.int .i64 x.at_, .int .i64 x.key, .int .i64 x.handle] 60)).frozen? ⟨r1, o, none⟩ = false := fun o => hb1'.free o
      have hnr : r1 ≠ wr.heap.size := by omega
      have q0 := hb1.cell 0 _ rfl
      have q1 := hb1.cell 1 _ rfl
      have q2 := hb1.cell 2 _ rfl
      have qf : ∀ o, wr.frozen? ⟨r1, o, none⟩ = false := fun o => hb1.free o
      have HO2 := Lib.hid hO2
      have HB0 := Lib.hid hb0'
      have HB1 := Lib.hid hb1'
      have HX := Lib.hid hx
      have HOw := Lib.hid hO
      have HBw0 := Lib.hid hb0
      have HBw1 := Lib.hid hb1
      by_cases hless : x.at_ < u.at_
      · rw [if_pos hless] at hlt2
        have HL := Lib.hid hlt2
        clear hlt2 hx hu hO hO2 hb0 hb1 hb0' hb1'
        have f1 : decide (x.at_ < u.at_) = true := decide_eq_true hless
        go_wp2
        go_roundw
        case rel => exact ⟨j + 1, by omega, by go_num, (HOw.out.put3 (g := r1) (fun hc => by have := HR.out; omega) x).alloc _, (HBw0.out.only ((Only.refl (fun k => k = r1) wr).put3 (fun _ => rfl) x) n01).alloc _, by rw [HL.out]; exact (Blk.put3 HBw1.out x).alloc _⟩
        case measure => simp [intOf]; omega
      · rw [if_neg hless] at hlt2
        have HL := Lib.hid hlt2
        clear hlt2 hx hu hO hO2 hb0 hb1 hb0' hb1'
        have f1 : decide (x.at_ < u.at_) = false := decide_eq_false hless
        go_wp2
        go_roundw
        case rel => exact ⟨j + 1, by omega, by go_num, HO2.out, HB0.out, by rw [HL.out]; exact HB1.out⟩
        case measure => simp [intOf]; omega
    · have hjl : ts.take j = ts := List.take_of_length_le (by omega)
      rw [hjl, HY.out, least_all h0] at hu
      have u0 := hb1.cell 0 _ rfl
      have u1 := hb1.cell 1 _ rfl
      have u2 := hb1.cell 2 _ rfl
      have v0 := hb0.cell 0 _ rfl
      have v1 := hb0.cell 1 _ rfl
      have v2 := hb0.cell 2 _ rfl
      have uf : ∀ o, wr.frozen? ⟨r0, o, none⟩ = false := fun o => hb0.free o
      have HO := Lib.hid hO
      have HB0 := Lib.hid hb0
      have HU := Lib.hid hu
      clear hjl hu hO hb0 hb1
      go_wp2
      have b7 : Blk (put3 wr r0 u) r0 (rtC u) 60 := Blk.put3 HB0.out u
      have p7 := HO.out.put3 (g := r0) (fun hc => by have := HR.out; omega) u
      unfold put3 at b7 p7
      generalize ((wr.setCell ⟨r0, 0, none⟩ (.int .i64 u.at_)).setCell ⟨r0, 1, none⟩ (.int .i64 u.key)).setCell ⟨r0, 2, none⟩ (.int .i64 u.handle) = w7 at b7 p7 ⊢
      obtain ⟨x0, x1, x2⟩ : w7.cell? ⟨r0, 0, none⟩ = some (.int .i64 u.at_) ∧ w7.cell? ⟨r0, 1, none⟩ = some (.int .i64 u.key) ∧ w7.cell? ⟨r0, 2, none⟩ = some (.int .i64 u.handle) := ⟨b7.cell 0 _ rfl, b7.cell 1 _ rfl, b7.cell 2 _ rfl⟩
      exact bodyPost_ret (v := rtV u) (by simp [results, Try.results31, go_sem, x0, x1, x2]) rfl ⟨by rw [HU.out], p7⟩

theorem r_next_some (h : Tr F w lo p most ts vl used vg) (hm : ts.length ≤ 4096) (h0 : 0 < ts.length) :
    Calls Try.prog 21 #[.pointer (some ⟨p, 0, none⟩)] w fun e w' => e = .returned (.tuple #[.int .i64 (firstL ts).at_, .bool true]) ∧ Only (fun _ => False) w w' := by
  obtain ⟨ao, cap, rfl, hlc, hcm, _, _⟩ := ownsRow_slice h.row
  have c1 := h.blk.cell 1 _ rfl
  have hfk : ∀ w : World, (Instr.field 60 (rtV (firstL ts)) 0).run Try.prog w = .ok (.int .i64 (firstL ts).at_) w := fun w => by kernel_rfl
  have H := Lib.hid h
  clear h
  go_enter Try.func21, Try.ntmps21
  go_wp2_with (go_at_call 31; (with_reducible refine (r_first H.out hm h0).mono ?_); rintro e w1 ⟨rfl, hO⟩; have HO := Lib.hid hO; clear hO)
  go_ret2
  exact ⟨rfl, HO.out⟩
theorem r_next_none (h : Tr F w lo p most [] vl used vg) :
    Calls Try.prog 21 #[.pointer (some ⟨p, 0, none⟩)] w fun e w' => e = .returned (.tuple #[.int .i64 0, .bool false]) ∧ w = w' := by
  obtain ⟨ao, cap, rfl, hlc, hcm, _, _⟩ := ownsRow_slice h.row
  have c1 := h.blk.cell 1 _ rfl
  clear h
  simp only [List.length_nil] at c1
  go_enter Try.func21, Try.ntmps21
  go_wp2_with fail
  go_ret2
  exact ⟨rfl, rfl⟩
end
end Go.Proofs.Ytbbihkddogbicaa
