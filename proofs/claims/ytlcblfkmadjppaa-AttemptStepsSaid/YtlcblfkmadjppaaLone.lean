/- AttemptLone. -/
import Derived.Test.YtlcblfkmadjppaaLaws1
import Derived.Test.YtlcblfkmadjppaaPlain3
import Derived.Test.YtlcblfkmadjppaaArgs
namespace Go.Proofs.Ytlcblfkmadjppaa
open Go.RowKit
set_option linter.unusedVariables false
set_option linter.unusedSimpArgs false

def mkPl (a b c d t : Int) (s : Bool) : Pl := ⟨a.toNat, b.toNat, c.toNat, d.toNat, t.toNat, s⟩
structure OkP (a b c d t : Int) : Prop where
  a1 : 0 ≤ a ∧ a ≤ 5
  b1 : 0 ≤ b ∧ b ≤ 3
  c1 : 1 ≤ c ∧ c ≤ 1000000
  d1 : 1 ≤ d ∧ d ≤ 1000000
  t1 : 1 ≤ t ∧ t ≤ 1000000
theorem OkP.pl {a b c d t : Int} (h : OkP a b c d t) (s : Bool) : OkPl (mkPl a b c d t s) := by
  obtain ⟨h1, h2, h3, h4, h5⟩ := h
  unfold mkPl
  exact ⟨by show a.toNat ≤ 5; omega, by show b.toNat ≤ 3; omega, by show 1 ≤ c.toNat ∧ c.toNat ≤ 1000000; omega, by show 1 ≤ d.toNat ∧ d.toNat ≤ 1000000; omega, by show 1 ≤ t.toNat ∧ t.toNat ≤ 1000000; omega⟩
section
variable {w0 w : World} {q : Nat} {r : Rq} {K : Kept}
/-- Begin at 0 in a law. -/
theorem law_begin {a b c d t : Int} {s : Bool} (h : OkP a b c d t) (hb : Below w0.heap.size w0 w) (hk : ∀ x ∈ K, Blk w x.1 x.2.1 x.2.2 ∧ w0.heap.size ≤ x.1) :
    Calls Try.prog 9 #[plV a b c d t s, .int .i64 0] w fun e w' => ∃ q g cap C, e = .returned (.tuple #[.pointer (some ⟨q, 0, none⟩), .slice (some ⟨g, 0, none⟩) 1 cap, .int .i64 0]) ∧ 1 ≤ cap ∧ cap ≤ 9223372036854775807 ∧
      Lq w0 w' q (begunRq (mkPl a b c d t s) 0) ((g, acCells [⟨1, 0, 0⟩] ++ C, 37) :: K) := by
  have hp := h.pl s
  have hg := begin_ok (mkPl a b c d t s) hp 0 (by decide) w
  obtain ⟨h1, h2, h3, h4, h5⟩ := h
  have e : plV ((mkPl a b c d t s).retries) ((mkPl a b c d t s).hedges) ((mkPl a b c d t s).after) ((mkPl a b c d t s).per) ((mkPl a b c d t s).total) (mkPl a b c d t s).safe = plV a b c d t s := by
    unfold mkPl plV
    simp only [Int.toNat_of_nonneg h1.1, Int.toNat_of_nonneg h2.1, Int.toNat_of_nonneg (show 0 ≤ c by omega), Int.toNat_of_nonneg (show 0 ≤ d by omega), Int.toNat_of_nonneg (show 0 ≤ t by omega)]
  rw [e] at hg
  refine hg.mono ?_
  rintro e w' ⟨q, v, rfl, hB⟩
  obtain ⟨g, cap, C, rfl, h1, h2, hL⟩ := lq_begun_keep hb hB (okq_begun hp (by decide)) hk
  exact ⟨q, g, cap, C, rfl, h1, h2, hL⟩
theorem law_begin_bad {a b c d t : Int} {s : Bool} (h : ¬ OkP a b c d t) (w : World) :
    Calls Try.prog 9 #[plV a b c d t s, .int .i64 0] w fun e w' => e = .returned (.tuple #[.pointer none, .slice none 0 0, .int .i64 1]) ∧ Only (fun _ => False) w w' :=
  begin_bad a b c d t s 0 (fun hh => h ⟨⟨hh.1, hh.2.1⟩, ⟨hh.2.2.1, hh.2.2.2.1⟩, hh.2.2.2.2.1, hh.2.2.2.2.2.1, hh.2.2.2.2.2.2.1⟩) w
end

def acAt (l : List Ac) (i : Nat) : Ac := l.getD i default
theorem acAt_eq {l : List Ac} {i : Nat} (h : i < l.length) : acAt l i = l[i] := by simp [acAt, List.getD_eq_getElem?_getD, h]
theorem acAt_mem {l : List Ac} {i : Nat} (h : i < l.length) : acAt l i ∈ l := by rw [acAt_eq h]; exact List.getElem_mem h
/-- A row of acts, to be read. -/
def ActRow (w : World) (v : Value) (l : List Ac) : Prop :=
  ∃ ao cap, v = .slice ao l.length cap ∧ l.length ≤ cap ∧ cap ≤ 9223372036854775807 ∧ (0 < l.length → ∃ g, ao = some ⟨g, 0, none⟩ ∧ g < w.heap.size ∧
    ∀ i, i < l.length → w.cell? ⟨g, i * 3, none⟩ = some (.int .i64 (acAt l i).kind) ∧ w.cell? ⟨g, i * 3 + 1, none⟩ = some (.int .i64 (acAt l i).id) ∧ w.cell? ⟨g, i * 3 + 2, none⟩ = some (.int .i64 (acAt l i).n))
theorem actRow {w : World} {lo : Nat} {v : Value} {l : List Ac} (h : w.ownsRow lo 37 3 v l.length (acCells l)) : ActRow w v l := by
  obtain ⟨ao, cap, rfl, h1, h2, _⟩ := ownsRow_slice h
  refine ⟨ao, cap, rfl, h1, by unfold maxLen at h2; omega, fun h0 => ?_⟩
  obtain ⟨g, cap', C, e, _, hb, _⟩ := ownsRow_blk h h0
  injection e with e1 _ _
  refine ⟨g, e1, hb.lt, fun i hi => ?_⟩
  have hl := acCells_len l
  have key : ∀ j, j < 3 → w.cell? ⟨g, i * 3 + j, none⟩ = (acC l[i])[j]? := fun j hj => by
    rw [hb.cellAt, List.getElem?_append_left (by omega)]
    exact flat_get acC_len hi hj
  rw [acAt_eq hi]
  exact ⟨key 0 (by omega), key 1 (by omega), key 2 (by omega)⟩
theorem ActRow.only {w w' : World} {v : Value} {l : List Ac} (h : ActRow w v l) (ho : Only (fun _ => False) w w') : ActRow w' v l := by
  obtain ⟨ao, cap, rfl, h1, h2, h3⟩ := h
  refine ⟨ao, cap, rfl, h1, h2, fun h0 => ?_⟩
  obtain ⟨g, e, hg, hc⟩ := h3 h0
  have hb := ho.block g hg (fun h => h)
  refine ⟨g, e, Nat.lt_of_lt_of_le hg ho.size, fun i hi => ?_⟩
  obtain ⟨c0, c1, c2⟩ := hc i hi
  exact ⟨(World.cell?_of_block (a := ⟨g, i * 3, none⟩) hb).trans c0, (World.cell?_of_block (a := ⟨g, i * 3 + 1, none⟩) hb).trans c1, (World.cell?_of_block (a := ⟨g, i * 3 + 2, none⟩) hb).trans c2⟩
theorem ActRow.at_ {w : World} {v : Value} {l : List Ac} (h : ActRow w v l) {ao : Option Addr} {n cap : Nat} (hv : v = .slice ao n cap) {i : Nat} (hi : i < l.length) :
    ∃ g, ao = some ⟨g, 0, none⟩ ∧ g < w.heap.size ∧ w.cell? ⟨g, i * 3, none⟩ = some (.int .i64 (acAt l i).kind) ∧ w.cell? ⟨g, i * 3 + 1, none⟩ = some (.int .i64 (acAt l i).id) ∧ w.cell? ⟨g, i * 3 + 2, none⟩ = some (.int .i64 (acAt l i).n) := by
  obtain ⟨ao', cap', e, _, _, h3⟩ := h
  rw [hv] at e
  injection e with e1 e2 e3
  obtain ⟨g, e4, hg, hc⟩ := h3 (by omega)
  obtain ⟨c0, c1, c2⟩ := hc i hi
  exact ⟨g, e1.trans e4, hg, c0, c1, c2⟩

theorem steps_zero33 : ∀ w : World, (zeroValue 33).run Try.prog w = .ok (.agg #[.int .i64 0, .int .i64 0, .int .i64 0, .int .i64 0, .bool false]) w := fun w => by kernel_rfl

theorem lone_len {r : Rq} (hok : Okq r) (h1 : r.pl.retries = 0) (h2 : r.pl.hedges = 0) (ho : r.over = false) : r.runs.length = 1 := by
  have := hok.len
  have := hok.made
  have := hok.a1
  have := hok.a2
  have := List.length_pos_iff.2 (hok.live ho)
  omega

set_option maxRecDepth 100000 in
set_option maxHeartbeats 3200000 in
theorem lone_walk (a b c d t : Int) (s : Bool) (a1 : Option Addr) (len1 cap1 : Nat) (w : World) (hs : Steps w a1 len1) :
    Calls Try.prog 5 #[plV a b c d t s, .slice a1 len1 cap1] w fun e w' => e = .returned (.bool true) ∧ Below w.heap.size w w' := by
  have hmax := hs.max
  have HS := Lib.hid hs
  clear hs
  go_enter Try.func5, Try.ntmps5
  go_upto_region 1 with fail
  have hbx : Blk (w.alloc (Obj.cells #[.int .i64 a, .int .i64 b, .int .i64 c, .int .i64 d, .int .i64 t, .bool s] 23)) w.heap.size [.int .i64 a, .int .i64 b, .int .i64 c, .int .i64 d, .int .i64 t, .bool s] 23 := Blk.new w [.int .i64 a, .int .i64 b, .int .i64 c, .int .i64 d, .int .i64 t, .bool s] 23
  have hbw : Below w.heap.size w (w.alloc (Obj.cells #[.int .i64 a, .int .i64 b, .int .i64 c, .int .i64 d, .int .i64 t, .bool s] 23)) := (Below.refl _ _).alloc (Nat.le_refl _) _
  obtain ⟨g, hg⟩ : ∃ g, g = w.heap.size := ⟨_, rfl⟩
  rw [← hg] at hbx ⊢
  have hgw : w.heap.size ≤ g := by omega
  generalize w.alloc (Obj.cells #[.int .i64 a, .int .i64 b, .int .i64 c, .int .i64 d, .int .i64 t, .bool s] 23) = w1 at hbx hbw ⊢
  have c0 := hbx.cell 0 _ rfl
  have f0 := hbx.free 0
  have hgl := hbx.lt
  have hb2 := hbx.set 0 (.int .i64 0)
  have hw2 := hbw.setCell (p := ⟨g, 0, none⟩) hgw (.int .i64 0)
  clear hbx hbw hg
  rw [show (0 : Nat) = 0 from rfl]
  go_upto_region 2 with fail
  generalize w1.setCell ⟨g, 0, none⟩ (.int .i64 0) = w2 at hb2 hw2 ⊢
  have c1 := hb2.cell 1 _ rfl
  have f1 := hb2.free 1
  have hgl2 := hb2.lt
  have hb3 := hb2.set 1 (.int .i64 0)
  have hw3 := hw2.setCell (p := ⟨g, 1, none⟩) hgw (.int .i64 0)
  clear hb2 hw2 c0 f0 hgl
  go_upto_region 3 with fail
  generalize w2.setCell ⟨g, 1, none⟩ (.int .i64 0) = w3 at hb3 hw3 ⊢
  have d0 : w3.cell? ⟨g, 0, none⟩ = some (.int .i64 0) := hb3.cell 0 _ rfl
  have d1 : w3.cell? ⟨g, 1, none⟩ = some (.int .i64 0) := hb3.cell 1 _ rfl
  have d2 := hb3.cell 2 _ rfl
  have d3 := hb3.cell 3 _ rfl
  have d4 := hb3.cell 4 _ rfl
  have d5 := hb3.cell 5 _ rfl
  have hgl3 := hb3.lt
  have HW3 := Lib.hid hw3
  clear hb3 hw3 c1 f1 hgl2
  by_cases hp : OkP 0 0 c d t
  · have HP := Lib.hid hp
    clear hp
    go_upto_region 7 with (go_at_call 9; (with_reducible refine (law_begin (K := []) (s := s) HP.out HW3.out (fun x hx => absurd hx (by simp))).mono ?_); rintro e w4 ⟨q, g0, cap0, C0, rfl, hc1, hc2, hL⟩; have HL := Lib.hid (hL.sub (K' := []) (fun x hx => absurd hx (by simp))); clear hL)
    clear d0 d1 d2 d3 d4 d5
    go_loopw [40] (fun i wr => ∃ (j : Nat) (r : Rq), j ≤ len1 ∧ i = .int .i64 j ∧ Lq w wr q r [] ∧ r.pl = mkPl 0 0 c d t s) (fun i _ => len1 - (intOf i).toNat)
    case atStart => exact ⟨0, _, Nat.zero_le _, rfl, HL.out, rfl⟩
    case round =>
      obtain ⟨j, r, hj, rfl, hI, hpl⟩ := hrel
      have HI := Lib.hid hI
      have HPL := Lib.hid hpl
      clear hI hpl
      have z33 := steps_zero33
      have z37 := zero37
      by_cases hlt : j < len1
      · obtain ⟨b1, off, rfl, hbl, hst⟩ := HS.out.at_ (by omega)
        obtain ⟨kd, nw, dd, wy, al, hc0, hc1', hc2', hc3, hc4⟩ := hst j hlt
        have hblk := HI.out.below.block b1 hbl
        have e0 := (World.cell?_of_block (a := ⟨b1, off + j * 5, none⟩) hblk).trans hc0
        have e1 := (World.cell?_of_block (a := ⟨b1, off + j * 5 + 1, none⟩) hblk).trans hc1'
        have e2 := (World.cell?_of_block (a := ⟨b1, off + j * 5 + 2, none⟩) hblk).trans hc2'
        have e3 := (World.cell?_of_block (a := ⟨b1, off + j * 5 + 3, none⟩) hblk).trans hc3
        have e4 := (World.cell?_of_block (a := ⟨b1, off + j * 5 + 4, none⟩) hblk).trans hc4
        clear hst hc0 hc1' hc2' hc3 hc4 hblk
        go_upto_region 9 with fail
        have hbn : Blk (wr.alloc (Obj.cells #[.int .i64 kd, .int .i64 nw, .int .i64 dd, .int .i64 wy, .bool al] 33)) wr.heap.size [.int .i64 kd, .int .i64 nw, .int .i64 dd, .int .i64 wy, .bool al] 33 := Blk.new wr [.int .i64 kd, .int .i64 nw, .int .i64 dd, .int .i64 wy, .bool al] 33
        have hL4 := HI.out.only ((Only.refl (fun _ => False) wr).alloc (Obj.cells #[.int .i64 kd, .int .i64 nw, .int .i64 dd, .int .i64 wy, .bool al] 33))
        obtain ⟨g4, hg4⟩ : ∃ g4, g4 = wr.heap.size := ⟨_, rfl⟩
        rw [← hg4] at hbn ⊢
        clear hg4
        generalize wr.alloc (Obj.cells #[.int .i64 kd, .int .i64 nw, .int .i64 dd, .int .i64 wy, .bool al] 33) = w5 at hbn hL4 ⊢
        have n0 := hbn.cell 0 _ rfl
        have n1 := hbn.cell 1 _ rfl
        have n2 := hbn.cell 2 _ rfl
        have n3 := hbn.cell 3 _ rfl
        have n4 := hbn.cell 4 _ rfl
        have hgl4 := hbn.lt
        have HL4 := Lib.hid hL4
        clear hbn hL4 e0 e1 e2 e3 e4
        obtain ⟨l, hl⟩ : ∃ l, l = (stepI r kd nw dd wy al).2.1 := ⟨_, rfl⟩
        have hno : ∀ x ∈ l, x.kind ≠ 1 := fun x hx hk => by
          rw [hl] at hx
          rcases step_tries HI.out.ok hx hk with ⟨_, h, _⟩ | ⟨_, h⟩
          · rw [HPL.out] at h; exact absurd h (show ¬ 0 < (0 : Int).toNat by decide)
          · rw [HPL.out] at h; exact absurd h (show ¬ 0 < (0 : Int).toNat by decide)
        have hdo := does_any HL4.out kd nw dd wy al
        rw [← hl] at hdo
        have HDO := Lib.hid hdo
        have HNO := Lib.hid hno
        have HPL2 := Lib.hid ((step_pl r kd nw dd wy al).1.trans HPL.out)
        clear hdo hno hl
        go_upto_region 11 with (go_at_call 11; (refine HDO.out.mono ?_); rintro e w6 ⟨v, rfl, hL6, hrow⟩; have har := actRow hrow; obtain ⟨ao, cp, rfl, ha1, ha2, -⟩ := id har; have HL6 := Lib.hid hL6; have HAR := Lib.hid har; clear hL6 hrow har)
        clear n0 n1 n2 n3 n4
        obtain ⟨m, hm⟩ : ∃ m, m = l.length := ⟨_, rfl⟩
        rw [← hm] at ha1 ⊢
        have hAR2 := HAR.out
        rw [← hm] at hAR2
        have HM := Lib.hid hm
        have HAR2 := Lib.hid hAR2
        clear hm hAR2
        go_loopw [13, 52] (fun _ i wr2 => ∃ i2 : Nat, i2 ≤ m ∧ i = .int .i64 i2 ∧ Only (fun _ => False) w6 wr2) (fun _ i _ => m - (intOf i).toNat)
        case atStart => exact ⟨0, Nat.zero_le _, rfl, Only.refl _ _⟩
        case round =>
          obtain ⟨i2, hi2, rfl, hO2⟩ := hrel
          have HO2 := Lib.hid hO2
          clear hO2
          by_cases hlt2 : i2 < m
          · have hil : i2 < l.length := by rw [← HM.out]; exact hlt2
            obtain ⟨g7, rfl, hg7, k0, k1, k2⟩ := (HAR2.out.only HO2.out).at_ rfl hil
            have hkd := HNO.out _ (acAt_mem hil)
            obtain ⟨y, hy⟩ : ∃ y, y = acAt l i2 := ⟨_, rfl⟩
            rw [← hy] at k0 k1 k2 hkd
            have fk : (y.kind == 1) = false := beq_eq_false_iff_ne.2 hkd
            clear hy hil hkd
            go_wp2_with fail
            go_roundw
            case rel => exact ⟨i2 + 1, by omega, by go_num, HO2.out.alloc _⟩
            case measure => simp [intOf]; omega
          · go_wp2_with fail
            go_roundw
            case rel => exact ⟨j + 1, _, by omega, by go_num, HL6.out.only HO2.out, HPL2.out⟩
            case measure => simp [intOf]; omega
      · cases hov : r.over with
        | true =>
          have HV := Lib.hid hov
          clear hov
          go_wp2_with (first
            | (go_at_call 12; (with_reducible refine (lq_over HI.out).mono ?_); rintro e w' ⟨rfl, rfl⟩; rw [HV.out])
            | (go_at_call 10; (with_reducible refine (speaks_ok _).mono ?_); rintro e w8 ⟨rfl, hB⟩))
          go_ret
          exact ⟨rfl, HI.out.below.trans (hB.mono HI.out.size)⟩
        | false =>
          have hln := lone_len HI.out.ok (by rw [HPL.out]; rfl) (by rw [HPL.out]; rfl) hov
          have HV := Lib.hid hov
          have HLN := Lib.hid hln
          clear hov hln
          go_wp2_with (first
            | (go_at_call 12; (with_reducible refine (lq_over HI.out).mono ?_); rintro e w' ⟨rfl, rfl⟩; rw [HV.out])
            | (go_at_call 13; (with_reducible refine (lq_running HI.out).mono ?_); rintro e w7 ⟨v7, rfl, hi7, hO7⟩; unfold Ints at hi7; rw [idsOf_len, HLN.out] at hi7; obtain ⟨a7, c7, rfl, _, _, _, _⟩ := ownsRow_slice hi7; have HO7 := Lib.hid hO7; clear hi7 hO7)
            | (go_at_call 10; (with_reducible refine (speaks_ok _).mono ?_); rintro e w8 ⟨rfl, hB⟩))
          go_ret
          have hL7 := HI.out.only HO7.out
          exact ⟨rfl, hL7.below.trans (hB.mono hL7.size)⟩
  · have HP := Lib.hid hp
    clear hp
    go_wp2_with (first
      | (go_at_call 9; (with_reducible refine (law_begin_bad (s := s) HP.out _).mono ?_); rintro e w4 ⟨rfl, hO⟩; have HO := Lib.hid hO; clear hO)
      | (go_at_call 10; (with_reducible refine (speaks_ok _).mono ?_); rintro e w8 ⟨rfl, hB⟩))
    go_ret
    have hb4 := below_only HW3.out HO.out HW3.out.size (fun _ h => h.elim)
    exact ⟨rfl, hb4.trans (hB.mono hb4.size)⟩
end Go.Proofs.Ytlcblfkmadjppaa
