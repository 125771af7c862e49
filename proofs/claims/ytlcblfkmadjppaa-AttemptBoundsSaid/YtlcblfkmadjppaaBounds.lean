/- AttemptBounds. -/
import Derived.Test.YtlcblfkmadjppaaLone
import Derived.Test.YtlcblfkmadjppaaPlain4
namespace Go.Proofs.Ytlcblfkmadjppaa
open Go.RowKit
set_option linter.unusedVariables false
set_option linter.unusedSimpArgs false

def bools (l : List Bool) : List Value := l.map Value.bool
theorem zero31 : ∀ w : World, (zeroValue 31).run Try.prog w = .ok (.agg #[.bool false, .bool false, .bool false, .bool false, .bool false, .bool false, .bool false, .bool false, .bool false, .bool false, .bool false, .bool false, .bool false, .bool false, .bool false, .bool false]) w := fun w => by kernel_rfl
theorem bools_get {l : List Bool} {i : Nat} (h : i < l.length) : (bools l)[i]? = some (.bool (l.getD i false)) := by simp [bools, List.getD_eq_getElem?_getD, h]
theorem bools_set (l : List Bool) (i : Nat) (b : Bool) : bools (l.set i b) = (bools l).set i (.bool b) := by simp [bools, List.map_set]
theorem seq_nil {s t : Bs} (h : Seq s [] t) : s = t := by cases h; rfl
theorem seq_cons {s t : Bs} {y : Ac} {l : List Ac} (h : Seq s (y :: l) t) : OkAct s y ∧ Seq (nextS s y) l t := by
  cases h with
  | cons a b => exact ⟨a, b⟩
theorem drop_acts {l : List Ac} {i : Nat} (h : i < l.length) : l.drop i = acAt l i :: l.drop (i + 1) := by rw [List.drop_eq_getElem_cons h, acAt_eq h]

set_option maxRecDepth 100000 in
set_option maxHeartbeats 3200000 in
theorem bounds_walk (a b c d t : Int) (s : Bool) (a1 : Option Addr) (len1 cap1 : Nat) (w : World) (hs : Steps w a1 len1) :
    Calls Try.prog 3 #[plV a b c d t s, .slice a1 len1 cap1] w fun e w' => e = .returned (.bool true) ∧ Below w.heap.size w w' := by
  have hmax := hs.max
  have HS := Lib.hid hs
  clear hs
  go_enter Try.func3, Try.ntmps3
  go_upto_region 1 with fail
  have hbx : Blk (w.alloc (Obj.cells #[.int .i64 a, .int .i64 b, .int .i64 c, .int .i64 d, .int .i64 t, .bool s] 23)) w.heap.size [.int .i64 a, .int .i64 b, .int .i64 c, .int .i64 d, .int .i64 t, .bool s] 23 := Blk.new w [.int .i64 a, .int .i64 b, .int .i64 c, .int .i64 d, .int .i64 t, .bool s] 23
  have hbw : Below w.heap.size w (w.alloc (Obj.cells #[.int .i64 a, .int .i64 b, .int .i64 c, .int .i64 d, .int .i64 t, .bool s] 23)) := (Below.refl _ _).alloc (Nat.le_refl _) _
  obtain ⟨g, hg⟩ : ∃ g, g = w.heap.size := ⟨_, rfl⟩
  rw [← hg] at hbx ⊢
  have hgw : w.heap.size ≤ g := by omega
  generalize w.alloc (Obj.cells #[.int .i64 a, .int .i64 b, .int .i64 c, .int .i64 d, .int .i64 t, .bool s] 23) = w1 at hbx hbw ⊢
  have hk0 : ∀ x ∈ ([(g, [.int .i64 a, .int .i64 b, .int .i64 c, .int .i64 d, .int .i64 t, .bool s], 23)] : Kept), Blk w1 x.1 x.2.1 x.2.2 ∧ w.heap.size ≤ x.1 := fun x hx => by
    rw [List.mem_singleton.1 hx]
    exact ⟨hbx, hgw⟩
  have d0 := hbx.cell 0 _ rfl
  have d1 := hbx.cell 1 _ rfl
  have d2 := hbx.cell 2 _ rfl
  have d3 := hbx.cell 3 _ rfl
  have d4 := hbx.cell 4 _ rfl
  have d5 := hbx.cell 5 _ rfl
  have hgl := hbx.lt
  have HK0 := Lib.hid hk0
  have HW3 := Lib.hid hbw
  clear hbx hbw hg hk0
  by_cases hp : OkP a b c d t
  · have HP := Lib.hid hp
    clear hp
    go_upto_region 6 with (go_at_call 9; (with_reducible refine (law_begin (s := s) HP.out HW3.out HK0.out).mono ?_); rintro e w4 ⟨q, g0, cap0, C0, rfl, hc1, hc2, hL⟩; have HL := Lib.hid (hL.sub (K' := [(g, [.int .i64 a, .int .i64 b, .int .i64 c, .int .i64 d, .int .i64 t, .bool s], 23)]) (fun x hx => List.mem_cons_of_mem _ hx)); clear hL)
    clear d0 d1 d2 d3 d4 d5
    have z31 := zero31
    go_upto_region 7 with fail
    have hn4 := HL.out.new_ (cs := bools (List.replicate 16 false)) (t := 31)
    have hbr : Blk (w4.alloc (Obj.cells #[.bool false, .bool false, .bool false, .bool false, .bool false, .bool false, .bool false, .bool false, .bool false, .bool false, .bool false, .bool false, .bool false, .bool false, .bool false, .bool false] 31)) w4.heap.size (bools (List.replicate 16 false)) 31 := Blk.new w4 (bools (List.replicate 16 false)) 31
    obtain ⟨gr, hgr⟩ : ∃ gr, gr = w4.heap.size := ⟨_, rfl⟩
    have hgne : gr ≠ g := by
      have hk := HL.out.kept (List.mem_cons_self ..)
      have := hk.lt
      show gr ≠ g
      have h2 : g < w4.heap.size := hk.lt
      omega
    rw [← hgr] at hn4 hbr ⊢
    change Lq w (w4.alloc (Obj.cells #[.bool false, .bool false, .bool false, .bool false, .bool false, .bool false, .bool false, .bool false, .bool false, .bool false, .bool false, .bool false, .bool false, .bool false, .bool false, .bool false] 31)) q _ _ at hn4
    generalize w4.alloc (Obj.cells #[.bool false, .bool false, .bool false, .bool false, .bool false, .bool false, .bool false, .bool false, .bool false, .bool false, .bool false, .bool false, .bool false, .bool false, .bool false, .bool false] 31) = w4b at hn4 hbr ⊢
    have r0 := hbr.cell 0 _ rfl
    have fr0 := hbr.free 0
    have hgrl := hbr.lt
    have hput := hn4.put (fun x hx => by rw [List.mem_singleton.1 hx]; exact Ne.symm hgne) 0 (.bool true)
    have HPUT := Lib.hid hput
    have HNE := Lib.hid hgne
    clear hn4 hbr hgr hgne hput z31
    go_upto_region 9 with fail
    generalize w4b.setCell ⟨gr, 0, none⟩ (.bool true) = w4c at HPUT ⊢
    clear r0 fr0 hgrl
    go_loopw [8, 9, 39] (fun mv av i wr => ∃ (j : Nat) (r : Rq) (s1 : Bs), j ≤ len1 ∧ i = .int .i64 j ∧ mv = .int .i64 s1.made ∧ av = .int .i64 s1.ans ∧ Lq w wr q r [(gr, bools s1.run, 31), (g, [.int .i64 a, .int .i64 b, .int .i64 c, .int .i64 d, .int .i64 t, .bool s], 23)] ∧ r.pl = mkPl a b c d t s ∧ Good r s1) (fun _ _ i _ => len1 - (intOf i).toNat)
    case atStart => exact ⟨0, _, ⟨1, 0, true :: List.replicate 15 false⟩, Nat.zero_le _, rfl, rfl, rfl, HPUT.out, rfl, good_begun _⟩
    case round =>
      obtain ⟨j, r, s1, hj, rfl, rfl, rfl, hI, hpl, hgood⟩ := hrel
      have HGD := Lib.hid hgood
      have HI := Lib.hid hI
      have HPL := Lib.hid hpl
      clear hI hpl hgood
      have z33 := steps_zero33
      have z37 := zero37
      by_cases hlt : j < len1
      · obtain ⟨b1, off, rfl, hbl, hst⟩ := HS.out.at_ (by omega)
        obtain ⟨kd, nw, dd, wy, al, hc0, hc1', hc2', hc3, hc4⟩ := hst j hlt
        have hblk := HI.out.below.block b1 hbl
        have e0 := (World.cell?_of_block (a := ⟨b1, off + j * 5, none⟩) hblk).trans hc0
        have e1 := (World.cell?_of_block (a := ⟨b1, off + j * 5 + 1, none⟩) hblk).trans hc1'
        have e2 := (World.cell?_of_block (a := ⟨b1, off + j * 5 + 2, none⟩) hblk).trans hc2'
        have e3 := (World.cell?_of_block (a := ⟨b1, off + j * 5 + 3, none⟩) hblk).trans hc3
        have e4 := (World.cell?_of_block (a := ⟨b1, off + j * 5 + 4, none⟩) hblk).trans hc4
        clear hst hc0 hc1' hc2' hc3 hc4 hblk
        go_upto_region 11 with fail
        have hbn : Blk (wr.alloc (Obj.cells #[.int .i64 kd, .int .i64 nw, .int .i64 dd, .int .i64 wy, .bool al] 33)) wr.heap.size [.int .i64 kd, .int .i64 nw, .int .i64 dd, .int .i64 wy, .bool al] 33 := Blk.new wr [.int .i64 kd, .int .i64 nw, .int .i64 dd, .int .i64 wy, .bool al] 33
        have hL4 := HI.out.only ((Only.refl (fun _ => False) wr).alloc (Obj.cells #[.int .i64 kd, .int .i64 nw, .int .i64 dd, .int .i64 wy, .bool al] 33))
        obtain ⟨g4, hg4⟩ : ∃ g4, g4 = wr.heap.size := ⟨_, rfl⟩
        rw [← hg4] at hbn ⊢
        clear hg4
        generalize wr.alloc (Obj.cells #[.int .i64 kd, .int .i64 nw, .int .i64 dd, .int .i64 wy, .bool al] 33) = w5 at hbn hL4 ⊢
        have n0 := hbn.cell 0 _ rfl
        have n1 := hbn.cell 1 _ rfl
        have n2 := hbn.cell 2 _ rfl
        have n3 := hbn.cell 3 _ rfl
        have n4 := hbn.cell 4 _ rfl
        have hgl4 := hbn.lt
        have HL4 := Lib.hid hL4
        clear hbn hL4 e0 e1 e2 e3 e4
        have HPL2 := Lib.hid ((step_pl r kd nw dd wy al).1.trans HPL.out)
        obtain ⟨tt, hsq, hgd2⟩ := HGD.out.of_step HI.out.ok kd nw dd wy al
        obtain ⟨l, hl⟩ : ∃ l, l = (stepI r kd nw dd wy al).2.1 := ⟨_, rfl⟩
        obtain ⟨r2, hr2⟩ : ∃ r2, r2 = (stepI r kd nw dd wy al).1 := ⟨_, rfl⟩
        have hdo := does_any HL4.out kd nw dd wy al
        rw [← hl, ← hr2] at hdo
        rw [← hl] at hsq
        rw [← hr2] at hgd2 HPL2
        have HDO := Lib.hid hdo
        have HSQ0 := Lib.hid hsq
        have HGD2 := Lib.hid hgd2
        clear hdo hl hr2 hsq hgd2
        go_upto_region 13 with (go_at_call 11; (refine HDO.out.mono ?_); rintro e w6 ⟨v, rfl, hL6, hrow⟩; obtain ⟨ao, cp, rfl, ha1, ha2, -⟩ := id (actRow hrow); have HL6 := Lib.hid hL6; have HRW6 := Lib.hid hrow; clear hL6 hrow)
        clear n0 n1 n2 n3 n4
        obtain ⟨m, hm⟩ : ∃ m, m = l.length := ⟨_, rfl⟩
        have hrw6 := HRW6.out
        rw [← hm] at ha1 hrw6 ⊢
        have HM := Lib.hid hm
        have HRW0 := Lib.hid hrw6
        have HLN1 := Lib.hid HGD.out.len
        clear hm hrw6 HRW6
        go_loopw [8, 9, 16, 51] (fun mv av _ i wr => ∃ (i2 : Nat) (s2 : Bs), i2 ≤ m ∧ i = .int .i64 i2 ∧ mv = .int .i64 s2.made ∧ av = .int .i64 s2.ans ∧ Seq s2 (l.drop i2) tt ∧ s2.run.length = 16 ∧ Lq w wr q r2 [(gr, bools s2.run, 31), (g, [.int .i64 a, .int .i64 b, .int .i64 c, .int .i64 d, .int .i64 t, .bool s], 23)] ∧ wr.ownsRow w.heap.size 37 3 (.slice ao m cp) m (acCells l)) (fun _ _ _ i _ => m - (intOf i).toNat)
        case atStart => exact ⟨0, s1, Nat.zero_le _, rfl, rfl, rfl, HSQ0.out, HLN1.out, HL6.out.sub (fun x hx => by simpa using hx), HRW0.out⟩
        case round =>
          obtain ⟨i2, s2, hi2, rfl, rfl, rfl, hsq, hln, hL, hrow⟩ := hrel
          have HL2 := Lib.hid hL
          have HRO := Lib.hid hrow
          have HLN := Lib.hid hln
          by_cases hlt2 : i2 < m
          · have hil : i2 < l.length := by rw [← HM.out]; exact hlt2
            rw [drop_acts hil] at hsq
            obtain ⟨hok, hsq2⟩ := seq_cons hsq
            have hrow' := hrow
            rw [HM.out] at hrow'
            obtain ⟨g7, rfl, hg7, k0, k1, k2⟩ := (actRow hrow').at_ rfl hil
            obtain ⟨y, hy⟩ : ∃ y, y = acAt l i2 := ⟨_, rfl⟩
            rw [← hy] at k0 k1 k2 hok hsq2
            clear hy hil hsq hL hrow hrow'
            obtain ⟨yk, yi, yn⟩ := y
            simp only at k0 k1 k2
            go_upto_region 15 with fail
            have hL7 := HL2.out.only ((Only.refl (fun _ => False) wr).alloc (Obj.cells #[.int .i64 yk, .int .i64 yi, .int .i64 yn] 37))
            have hrow7 := owns_only HRO.out ((Only.refl (fun _ => False) wr).alloc (Obj.cells #[.int .i64 yk, .int .i64 yi, .int .i64 yn] 37)) (fun _ _ h => h)
            have hb7 : Blk (wr.alloc (Obj.cells #[.int .i64 yk, .int .i64 yi, .int .i64 yn] 37)) wr.heap.size [.int .i64 yk, .int .i64 yi, .int .i64 yn] 37 := Blk.new wr [.int .i64 yk, .int .i64 yi, .int .i64 yn] 37
            obtain ⟨gy, hgy⟩ : ∃ gy, gy = wr.heap.size := ⟨_, rfl⟩
            have hgyne : gr ≠ gy := by have h := (HL2.out.kept (List.mem_cons_self ..)).lt; have h2 : gr < wr.heap.size := h; omega
            rw [← hgy] at hb7 ⊢
            clear hgy k0 k1 k2
            generalize wr.alloc (Obj.cells #[.int .i64 yk, .int .i64 yi, .int .i64 yn] 37) = w7 at hL7 hrow7 hb7 ⊢
            have k0 := hb7.cell 0 _ rfl
            have k1 := hb7.cell 1 _ rfl
            have k2 := hb7.cell 2 _ rfl
            have hgyl := hb7.lt
            have hrb : Blk w7 gr (bools s2.run) 31 := hL7.kept (List.mem_cons_self ..)
            have HRW := Lib.hid hrow7
            have HRN := Lib.hid (ownsRow_ne hrow7 hrb (by decide))
            have h0 := hok.ans
            rw [h0]
            clear hb7
            have hkk : yk = 1 ∨ yk = 2 ∨ yk = 3 ∨ yk = 4 := hok.kind
            rcases hkk with rfl | rfl | rfl | rfl
            · -- kind 1
              obtain ⟨hid, hn⟩ := hok.try_ rfl
              have hm16 : s2.made < 16 := by rcases hok.id with ⟨h1, h2⟩ | ⟨_, h⟩
                                             · have h3 : (s2.made : Int) < 16 := by rw [← hid]; exact h2
                                               omega
                                             · cases h
              simp only at hid hn
              subst hid
              have hrc := bools_get (l := s2.run) (i := s2.made) (by rw [hln]; exact hm16)
              obtain ⟨hrl, hrf, hcell⟩ : gr < w7.heap.size ∧ w7.frozen? ⟨gr, s2.made, none⟩ = false ∧ w7.cell? ⟨gr, s2.made, none⟩ = some (.bool (s2.run.getD s2.made false)) := ⟨hrb.lt, hrb.free _, hrb.cell _ _ hrc⟩
              generalize s2.run.getD s2.made false = ob at hcell
              have hnx : nextS s2 ⟨1, s2.made, yn⟩ = ⟨s2.made + 1, 0, s2.run.set s2.made true⟩ := by unfold nextS; rw [if_pos rfl, h0]; rfl
              rw [hnx] at hsq2
              have hput := hL7.put (fun x hx => by rw [List.mem_singleton.1 hx]; exact Ne.symm HNE.out) s2.made (.bool true)
              rw [← bools_set] at hput
              have HSQ := Lib.hid hsq2
              have HPT := Lib.hid hput
              obtain ⟨sm, hsm⟩ : ∃ sm, sm = s2.made := ⟨_, rfl⟩
              rw [← hsm] at hm16 hrf hcell k1 HSQ HPT ⊢
              have HSM := Lib.hid hsm
              clear hrc hnx hsq2 hput hsm hok hrb h0 hL7 hrow7
              rcases hn with rfl | rfl
              all_goals
                go_wp2_with fail
                go_roundw
                case rel => exact ⟨i2 + 1, ⟨sm + 1, 0, s2.run.set sm true⟩, by omega, by go_num, by go_num, by go_num, HSQ.out, by rw [List.length_set]; exact HLN.out, HPT.out, owns_only HRW.out (only_p _ _ _ _) (fun k hk e => HRN.out (by rw [hk, e]))⟩
                case measure => simp [intOf]; omega
            · -- kind 2
              obtain ⟨hid0, hrt⟩ := hok.let_ (by left; rfl)
              have hid16 : yi < 16 := by rcases hok.id with ⟨_, h2⟩ | ⟨_, h⟩
                                         · exact h2
                                         · cases h
              have hid00 : 0 ≤ yi := hid0
              clear hid0
              obtain ⟨yq, rfl⟩ : ∃ yq : Nat, yi = yq := ⟨yi.toNat, by omega⟩
              have hrc := bools_get (l := s2.run) (i := yq) (by rw [hln]; omega)
              have hrt2 : s2.run.getD yq false = true := hrt
              rw [hrt2] at hrc
              obtain ⟨hrl, hrf, hcell⟩ : gr < w7.heap.size ∧ w7.frozen? ⟨gr, yq, none⟩ = false ∧ w7.cell? ⟨gr, yq, none⟩ = some (.bool true) := ⟨hrb.lt, hrb.free _, hrb.cell _ _ hrc⟩
              have hnx : nextS s2 ⟨2, yq, yn⟩ = ⟨s2.made, 0, s2.run.set yq false⟩ := by unfold nextS; rw [if_neg (show ¬ (2 : Int) = 1 by decide), if_pos rfl, h0]; rfl
              rw [hnx] at hsq2
              have hput := hL7.put (fun x hx => by rw [List.mem_singleton.1 hx]; exact Ne.symm HNE.out) yq (.bool false)
              rw [← bools_set] at hput
              have HSQ := Lib.hid hsq2
              have HPT := Lib.hid hput
              clear hrc hnx hsq2 hput hok hrb h0 hL7 hrow7 hrt hrt2
              go_wp2_with fail
              go_roundw
              case rel => exact ⟨i2 + 1, ⟨s2.made, 0, s2.run.set yq false⟩, by omega, by go_num, by go_num, by go_num, HSQ.out, by rw [List.length_set]; exact HLN.out, HPT.out, owns_only HRW.out (only_p _ _ _ _) (fun k hk e => HRN.out (by rw [hk, e]))⟩
              case measure => simp [intOf]; omega
            · -- kind 3
              obtain ⟨hid0, hrt⟩ := hok.let_ (by right; rfl)
              have hid16 : yi < 16 := by rcases hok.id with ⟨_, h2⟩ | ⟨_, h⟩
                                         · exact h2
                                         · cases h
              have hid00 : 0 ≤ yi := hid0
              clear hid0
              obtain ⟨yq, rfl⟩ : ∃ yq : Nat, yi = yq := ⟨yi.toNat, by omega⟩
              have hrc := bools_get (l := s2.run) (i := yq) (by rw [hln]; omega)
              have hrt2 : s2.run.getD yq false = true := hrt
              rw [hrt2] at hrc
              obtain ⟨hrl, hrf, hcell⟩ : gr < w7.heap.size ∧ w7.frozen? ⟨gr, yq, none⟩ = false ∧ w7.cell? ⟨gr, yq, none⟩ = some (.bool true) := ⟨hrb.lt, hrb.free _, hrb.cell _ _ hrc⟩
              have hnx : nextS s2 ⟨3, yq, yn⟩ = ⟨s2.made, 1, s2.run.set yq false⟩ := by unfold nextS; rw [if_neg (show ¬ (3 : Int) = 1 by decide), if_neg (show ¬ (3 : Int) = 2 by decide), if_pos rfl, h0]; rfl
              rw [hnx] at hsq2
              have hput := hL7.put (fun x hx => by rw [List.mem_singleton.1 hx]; exact Ne.symm HNE.out) yq (.bool false)
              rw [← bools_set] at hput
              have HSQ := Lib.hid hsq2
              have HPT := Lib.hid hput
              clear hrc hnx hsq2 hput hok hrb h0 hL7 hrow7 hrt hrt2
              go_wp2_with fail
              go_roundw
              case rel => exact ⟨i2 + 1, ⟨s2.made, 1, s2.run.set yq false⟩, by omega, by go_num, by go_num, by go_num, HSQ.out, by rw [List.length_set]; exact HLN.out, HPT.out, owns_only HRW.out (only_p _ _ _ _) (fun k hk e => HRN.out (by rw [hk, e]))⟩
              case measure => simp [intOf]; omega
            · -- kind 4
              have hid16 : yi < 16 := by rcases hok.id with ⟨_, h2⟩ | ⟨h, _⟩
                                         · exact h2
                                         · have h : yi < 0 := h
                                           omega
              have hnx : nextS s2 ⟨4, yi, yn⟩ = ⟨s2.made, 1, s2.run⟩ := by unfold nextS; rw [if_neg (show ¬ (4 : Int) = 1 by decide), if_neg (show ¬ (4 : Int) = 2 by decide), if_neg (show ¬ (4 : Int) = 3 by decide), h0]
              rw [hnx] at hsq2
              have HSQ := Lib.hid hsq2
              have HPT := Lib.hid hL7
              clear hnx hsq2 hok hrb h0 hL7 hrow7
              rcases (show yi < 0 ∨ 0 ≤ yi by omega) with hneg | hpos
              all_goals
                go_wp2_with fail
                go_roundw
                case rel => exact ⟨i2 + 1, ⟨s2.made, 1, s2.run⟩, by omega, by go_num, by go_num, by go_num, HSQ.out, HLN.out, HPT.out, HRW.out⟩
                case measure => simp [intOf]; omega
          · rw [List.drop_eq_nil_of_le (by rw [← HM.out]; omega)] at hsq
            have hst := seq_nil hsq
            subst hst
            have hkb := hL.kept (List.mem_cons_of_mem _ (List.mem_cons_self ..))
            have p0 := hkb.cell 0 _ rfl
            have p1 := hkb.cell 1 _ rfl
            have hgl9 := hkb.lt
            have hok2 := hL.ok
            have hmd : (s2.made : Int) ≤ a + b + 1 := by
              have h1 := HGD2.out.made
              have h2 := hok2.made
              have h3 := hok2.a1
              have h4 := hok2.a2
              rw [HPL2.out] at h3 h4
              have h5 : (mkPl a b c d t s).retries = a.toNat := rfl
              have h6 : (mkPl a b c d t s).hedges = b.toNat := rfl
              have h7 := HP.out.a1
              have h8 := HP.out.b1
              omega
            obtain ⟨ha0, ha5⟩ := HP.out.a1
            obtain ⟨hb0, hb3⟩ := HP.out.b1
            have fm : decide (a + b + 1 < (s2.made : Int)) = false := decide_eq_false (by omega)
            have han := HGD2.out.ans
            clear hkb hsq hrow hL hln hok2 hmd
            cases hov : r2.over with
            | true =>
              rw [hov] at han
              have han2 : s2.ans = 1 := han
              have HV := Lib.hid hov
              rw [han2]
              clear hov han
              go_wp2_with (go_at_call 12; (with_reducible refine (lq_over HL2.out).mono ?_); rintro e w' ⟨rfl, rfl⟩; rw [HV.out])
              go_roundw
              case rel => exact ⟨j + 1, r2, s2, by omega, by go_num, rfl, by rw [han2]; rfl, HL2.out, HPL2.out, HGD2.out⟩
              case measure => simp [intOf]; omega
            | false =>
              rw [hov] at han
              have han2 : s2.ans = 0 := han
              have HV := Lib.hid hov
              rw [han2]
              clear hov han
              go_wp2_with (go_at_call 12; (with_reducible refine (lq_over HL2.out).mono ?_); rintro e w' ⟨rfl, rfl⟩; rw [HV.out])
              go_roundw
              case rel => exact ⟨j + 1, r2, s2, by omega, by go_num, rfl, by rw [han2]; rfl, HL2.out, HPL2.out, HGD2.out⟩
              case measure => simp [intOf]; omega
      · go_wp2_with (go_at_call 10; (with_reducible refine (speaks_ok _).mono ?_); rintro e w8 ⟨rfl, hB⟩)
        go_ret
        exact ⟨rfl, HI.out.below.trans (hB.mono HI.out.size)⟩
  · have HP := Lib.hid hp
    clear hp
    go_wp2_with (first
      | (go_at_call 9; (with_reducible refine (law_begin_bad (s := s) HP.out _).mono ?_); rintro e w4 ⟨rfl, hO⟩; have HO := Lib.hid hO; clear hO)
      | (go_at_call 10; (with_reducible refine (speaks_ok _).mono ?_); rintro e w8 ⟨rfl, hB⟩))
    go_ret
    have hb4 := below_only HW3.out HO.out HW3.out.size (fun _ h => h.elim)
    exact ⟨rfl, hb4.trans (hB.mono hb4.size)⟩
end Go.Proofs.Ytlcblfkmadjppaa
