/- PoolAlone. -/
import Derived.Test.YtmpcffkandmacaaCaps
import Derived.Test.YtmpcffkandmacaaOwn
namespace Go.Proofs.Ytmpcffkandmacaa
open Go.RowKit
set_option linter.unusedVariables false
set_option linter.unusedSimpArgs false

def oRow (v : Value) (o : List Int) : Rowd := ⟨v, 3, 1, o.length, ints o⟩
section
variable {w0 w : World} {p : Nat} {P : Pp} {K : Kept} {R : List Rowd}
theorem Lq.rowO (h : Lq w0 w p P K R) {v : Value} {o : List Int} (hm : oRow v o ∈ R) : w.ownsRow w0.heap.size 3 1 v o.length (ints o) := h.rowd hm
/-- The owners' row is turned. -/
theorem Lq.turnO {v v' : Value} {o o' : List Int} {w' : World} (h : Lq w0 w p P K (oRow v o :: R)) (hK : ∀ x ∈ K, x.2.2 ≠ 3) (hR : ∀ x ∈ R, x.e ≠ 3) (hon : Only (fun k => v.ownBlock = some k) w w') (hrow : w'.ownsRow w0.heap.size 3 1 v' o'.length (ints o'))
    (hat : ∀ k, v'.ownBlock = some k → v.ownBlock = some k ∨ w.heap.size ≤ k) : Lq w0 w' p P K (oRow v' o' :: R) := by
  obtain ⟨X, vl, vw, h⟩ := h
  obtain ⟨h1, h2⟩ := h.r _ (List.mem_cons_self ..)
  simp only [oRow] at h1 h2
  refine ⟨X, vl, vw, h.pw.only hon (fun k hk e => h2 k e hk), h.below.trans (hon.below h.below.size (fun k hk => (ownsRow_lt h1 k hk).1)), fun x hx => ?_, fun x hx => ?_⟩
  · obtain ⟨a, b, c⟩ := h.k x hx
    exact ⟨a.only hon (fun e => ownsRow_ne h1 a (hK x hx) e), b, c⟩
  · rcases List.mem_cons.1 hx with rfl | hx
    · refine ⟨hrow, fun k hk hf => ?_⟩
      rcases hat k hk with e | e
      · exact h2 k e hf
      · have := (h.pw.lt k hf).2; omega
    · obtain ⟨a, b⟩ := h.r x (List.mem_cons_of_mem _ hx)
      exact ⟨owns_only a hon (fun k hk e => own_own_ne h1 a (fun e => hR x hx e.symm) k e hk), b⟩
theorem row_set {lo n g cap j : Nat} {o : List Int} {x : Int} (hn : n = o.length) (h : w.ownsRow lo 3 1 (.slice (some ⟨g, 0, none⟩) n cap) n (ints o)) (hj : j < n) : (w.setCell ⟨g, j, none⟩ (.int .i64 x)).ownsRow lo 3 1 (.slice (some ⟨g, 0, none⟩) n cap) (o.set j x).length (ints (o.set j x)) := by
  obtain ⟨g', cap', C, e, h1, h2, h3, h4, h5⟩ := ownsRow_blk h (by omega)
  injection e with e1 _ e3
  injection e1 with e1
  injection e1 with e1 _
  subst e1 e3
  have hb := h2.set j (.int .i64 x)
  rw [List.set_append_left j _ (by rw [ints_len]; omega)] at hb
  have e : (ints o).set j (.int .i64 x) = ints (o.set j x) := by unfold ints; rw [List.map_set]
  rw [e] at hb
  have hl : (o.set j x).length = n := by rw [List.length_set]; exact hn.symm
  rw [hl]
  exact ownsRow_of_blk (by rw [ints_len, hl, Nat.mul_one]) h1 hb h3 h4 (by rw [List.length_append, ints_len] at h5; rw [List.length_append, ints_len, List.length_set]; exact h5)
theorem Lq.setO {g n cap j : Nat} {o : List Int} (h : Lq w0 w p P K (oRow (.slice (some ⟨g, 0, none⟩) n cap) o :: R)) (hK : ∀ x ∈ K, x.2.2 ≠ 3) (hR : ∀ x ∈ R, x.e ≠ 3) (hn : n = o.length) (hj : j < n) (x : Int) :
    Lq w0 (w.setCell ⟨g, j, none⟩ (.int .i64 x)) p P K (oRow (.slice (some ⟨g, 0, none⟩) n cap) (o.set j x) :: R) := by
  have hr := h.rowO (List.mem_cons_self ..)
  rw [← hn] at hr
  exact h.turnO hK hR ((only_p w g j _).mono (fun k _ hk => by rw [hk]; rfl)) (row_set hn hr hj) (fun k hk => .inl hk)
/-- What a row of owners is. -/
theorem oRow_slice {lo : Nat} {v : Value} {o : List Int} (h : w.ownsRow lo 3 1 v o.length (ints o)) : ∃ ao cap, v = .slice ao o.length cap ∧ o.length ≤ cap ∧ cap ≤ 9223372036854775807 ∧
    ∀ j, j < o.length → ∃ g, ao = some ⟨g, 0, none⟩ ∧ g < w.heap.size ∧ w.cell? ⟨g, j, none⟩ = some (.int .i64 (o.getD j 0)) ∧ w.frozen? ⟨g, j, none⟩ = false := by
  obtain ⟨ao, cap, rfl, h1, h2, h3, h4⟩ := ownsRow_slice h
  refine ⟨ao, cap, rfl, h1, by unfold maxLen at h2; omega, fun j hj => ?_⟩
  obtain ⟨g', cap', C, e, a1, a2, _⟩ := ownsRow_blk h (by omega)
  injection e with e1 _ e3
  subst e1
  refine ⟨g', rfl, a2.lt, ?_, a2.free j⟩
  rw [a2.cellAt, List.getElem?_append_left (by rw [ints_len]; exact hj), ints_get hj]
theorem acRow_at {lo : Nat} {v : Value} {l : List Ac} (h : w.ownsRow lo 27 3 v l.length (acCells l)) : ∃ ao cap, v = .slice ao l.length cap ∧ l.length ≤ cap ∧ cap ≤ 9223372036854775807 ∧
    ∀ j (hj : j < l.length), ∃ g, ao = some ⟨g, 0, none⟩ ∧ g < w.heap.size ∧ w.cell? ⟨g, j * 3, none⟩ = some (.int .i64 l[j].kind) ∧ w.cell? ⟨g, j * 3 + 1, none⟩ = some (.int .i64 l[j].conn) ∧ w.cell? ⟨g, j * 3 + 2, none⟩ = some (.int .i64 l[j].who) := by
  obtain ⟨ao, cap, rfl, h1, h2, h3, h4⟩ := ownsRow_slice h
  refine ⟨ao, cap, rfl, h1, by unfold maxLen at h2; omega, fun j hj => ?_⟩
  obtain ⟨g', cap', C, e, a1, a2, _⟩ := ownsRow_blk h (by omega)
  injection e with e1 _ e3
  subst e1
  have key : ∀ k, k < 3 → (acCells l ++ C)[j * 3 + k]? = (acC l[j])[k]? := fun k hk => by
    rw [List.getElem?_append_left (by rw [acCells_len]; omega)]
    exact flat_get acC_len hj hk
  refine ⟨g', rfl, a2.lt, ?_, ?_, ?_⟩
  · have := key 0 (by decide)
    rw [Nat.add_zero] at this
    rw [a2.cellAt, this]; rfl
  · rw [a2.cellAt, key 1 (by decide)]; rfl
  · rw [a2.cellAt, key 2 (by decide)]; rfl
theorem ownL_len : ∀ {l : List Ac} {o o' : List Int}, ownL o l = some o' → o.length ≤ o'.length
  | [], o, o', h => by injection h with h; rw [h]; exact Nat.le_refl _
  | x :: l, o, o', h => by
    rw [ownL] at h
    cases hs : ownS o x with
    | none => rw [hs] at h; cases h
    | some o2 =>
      rw [hs] at h
      have h1 := ownL_len h
      have h2 : o.length ≤ o2.length := by
        unfold ownS at hs
        split at hs
        · split at hs
          · injection hs with hs; rw [← hs]; simp
          · cases hs
        split at hs
        · split at hs
          · injection hs with hs; rw [← hs]; simp
          · cases hs
        split at hs
        · split at hs
          · injection hs with hs; rw [← hs]; simp
          · cases hs
        · injection hs with hs; rw [hs]; exact Nat.le_refl _
      omega
theorem ownL_cons {x : Ac} {l : List Ac} {o o' : List Int} (h : ownL o (x :: l) = some o') : ∃ o2, ownS o x = some o2 ∧ ownL o2 l = some o' := by
  rw [ownL] at h
  cases hs : ownS o x with
  | none => rw [hs] at h; cases h
  | some o2 => rw [hs] at h; exact ⟨o2, rfl, h⟩
end

set_option maxRecDepth 100000 in
set_option maxHeartbeats 3200000 in
theorem alone_walk (a b c d : Int) (a1 : Option Addr) (len1 cap1 : Nat) (w : World) (hs : Steps w a1 len1) (hr : len1 * 24 ≤ 140737488351232) :
    Calls Try.prog 6 #[askV a b c d, .slice a1 len1 cap1] w fun e w' => e = .returned (.bool true) ∧ Below w.heap.size w w' := by
  have hmax := hs.max
  obtain ⟨i3, hi3, hz0, hz1, hz2⟩ := info_parts Try.info3
  have HS := Lib.hid hs
  clear hs
  have hbk : Blk (w.alloc (Obj.cells #[.int .i64 a, .int .i64 b, .int .i64 c, .int .i64 d] 44)) w.heap.size [.int .i64 a, .int .i64 b, .int .i64 c, .int .i64 d] 44 := Blk.new w [.int .i64 a, .int .i64 b, .int .i64 c, .int .i64 d] 44
  have hbl : Below w.heap.size w (w.alloc (Obj.cells #[.int .i64 a, .int .i64 b, .int .i64 c, .int .i64 d] 44)) := ((Only.refl (fun _ => False) w).alloc _).below (Nat.le_refl _) (fun _ h => h.elim)
  rcases new_case a b c d with ⟨a, b, c, d, rfl, rfl, rfl, rfl, hok⟩ | hbad
  · have hnew := (lq_new hok (w.alloc (Obj.cells #[.int .i64 a, .int .i64 b, .int .i64 c, .int .i64 d] 44))).mono (R' := fun e w' => ∃ p, e = .returned (.tuple #[ptr p, .int .i64 0]) ∧ Lq w w' p (newP a b c d) [(w.heap.size, [.int .i64 a, .int .i64 b, .int .i64 c, .int .i64 d], 44)] []) (by rintro e w' ⟨p, rfl, h⟩; exact ⟨p, rfl, Lq.base (cs := [.int .i64 a, .int .i64 b, .int .i64 c, .int .i64 d]) h⟩)
    have HNEW := Lib.hid hnew
    have HOK := Lib.hid hok
    clear hnew hok hbl
    go_enter Try.func6, Try.ntmps6
    go_upto_region 1 with fail
    obtain ⟨g, hg⟩ : ∃ g, g = w.heap.size := ⟨_, rfl⟩
    rw [← hg] at hbk HNEW ⊢
    have HG := Lib.hid hg
    generalize w.alloc (Obj.cells #[.int .i64 a, .int .i64 b, .int .i64 c, .int .i64 d] 44) = w1 at hbk HNEW ⊢
    have c0 := hbk.cell 0 _ rfl
    have c1 := hbk.cell 1 _ rfl
    have c2 := hbk.cell 2 _ rfl
    have c3 := hbk.cell 3 _ rfl
    have hgl := hbk.lt
    clear hbk hg
    go_upto_region 7 with (go_at_call 8; (refine HNEW.out.mono ?_); rintro e w2 ⟨p, rfl, hL⟩; have HL := Lib.hid (hL.weak (K' := []) (R' := []) (fun x hx => by cases hx) (fun x hx => by cases hx)); clear hL)
    clear c0 c1 c2 c3 hgl
    go_loopw [7, 8, 40] (fun nv ov i wr => ∃ (j t : Nat) (P : Pp) (o : List Int), j ≤ len1 ∧ i = .int .i64 j ∧ nv = .int .i64 t ∧ t ≤ 2305843009213693952 ∧ Lq w wr p P [] [oRow ov o] ∧ Inv P j ∧ Good P o) (fun _ _ i _ => len1 - (intOf i).toNat)
    case atStart => exact ⟨0, 0, newP a b c d, [], Nat.zero_le _, rfl, rfl, Nat.zero_le _, by
      obtain ⟨X, vl, vw, h⟩ := HL.out
      refine ⟨X, vl, vw, h.pw, h.below, h.k, fun x hx => ?_⟩
      rw [List.mem_singleton.1 hx]
      exact ⟨World.ownsRow_nil _ _ _ _, fun k hk => (by cases hk)⟩, newP_inv HOK.out, ⟨rfl, fun c hc => (by cases hc), fun c hc => (by cases hc), List.Pairwise.nil⟩⟩
    case round =>
      obtain ⟨j, t, P, o, hj, rfl, rfl, ht, hL, hI, hgd⟩ := hrel
      obtain ⟨ao, oc, rfl, ho1, ho2, -⟩ := oRow_slice (hL.rowO (List.mem_singleton.2 rfl))
      have HI := Lib.hid hI
      have HGD := Lib.hid hgd
      have HL2 := Lib.hid hL
      clear hI hgd
      have z47 := zero47
      have z27 := zero27
      by_cases hlt : j < len1
      · obtain ⟨b1, off, rfl, hbl1, hst⟩ := HS.out.at_ (by omega)
        obtain ⟨kd, nw, who, hc0, hc1, hc2⟩ := hst j hlt
        have hblk := hL.below.block b1 hbl1
        have e0 := (World.cell?_of_block (a := ⟨b1, off + j * 3, none⟩) hblk).trans hc0
        have e1 := (World.cell?_of_block (a := ⟨b1, off + j * 3 + 1, none⟩) hblk).trans hc1
        have e2 := (World.cell?_of_block (a := ⟨b1, off + j * 3 + 2, none⟩) hblk).trans hc2
        clear hst hc0 hc1 hc2 hblk hL
        go_upto_region 9 with fail
        have hL4 := HL2.out.step_ kd nw who
        obtain ⟨q, hq⟩ : ∃ q, q = wr.heap.size := ⟨_, rfl⟩
        rw [← hq] at hL4 ⊢
        clear hq e0 e1 e2
        generalize wr.alloc (Obj.cells #[.int .i64 kd, .int .i64 nw, .int .i64 who] 47) = w4 at hL4 ⊢
        have hb4 := hL4.kept (List.mem_cons_self ..)
        have k0 := hb4.cell 0 _ rfl
        have k1 := hb4.cell 1 _ rfl
        have k2 := hb4.cell 2 _ rfl
        have hql := hb4.lt
        have HL4 := Lib.hid hL4
        clear hL4 hb4
        obtain ⟨t2, ht2, hcase⟩ : ∃ t2 : Nat, t2 ≤ 2305843009213693952 ∧ ((((t : Int) < nw ∧ nw ≤ 2305843009213693952) ∧ nw = t2) ∨ (nw ≤ (t : Int) ∧ t2 = t) ∨ (((t : Int) < nw ∧ 2305843009213693952 < nw) ∧ t2 = t)) := by
          by_cases h1 : (t : Int) < nw
          · by_cases h2 : nw ≤ 2305843009213693952
            · exact ⟨nw.toNat, by omega, .inl ⟨⟨h1, h2⟩, by omega⟩⟩
            · exact ⟨t, ht, .inr (.inr ⟨⟨h1, by omega⟩, rfl⟩)⟩
          · exact ⟨t, ht, .inr (.inl ⟨by omega, rfl⟩)⟩
        have HDO := Lib.hid (does_any HL4.out HI.out.ok (by omega) kd nw who (t2 : Int))
        obtain ⟨hi2, hs2⟩ := does_inv HI.out kd who (t2 : Int)
        obtain ⟨hgn, o', hown, hgd2⟩ := does_good HGD.out kd who (t2 : Int)
        obtain ⟨D, hD⟩ : ∃ D, D = doesL P kd who (t2 : Int) := ⟨_, rfl⟩
        rw [← hD] at HDO hi2 hs2 hgn hown hgd2
        obtain ⟨P2, l, gone⟩ := D
        simp only at hi2 hgn hown hgd2
        have HI2 := Lib.hid hi2
        have HGD2 := Lib.hid hgd2
        have HOWN := Lib.hid hown
        have HGN := Lib.hid hgn
        have HO' := Lib.hid (show o'.length ≤ j + 1 by rw [hgd2.len]; have := hi2.ok.x; omega)
        clear hi2 hs2 hD hgn hown hgd2
        obtain ⟨n, hn⟩ : ∃ n, n = o.length := ⟨_, rfl⟩
        rw [← hn] at ho1 HGN HDO ⊢
        have HN := Lib.hid hn
        clear hn
        rcases hcase with ⟨⟨h1, h2⟩, rfl⟩ | ⟨h1, rfl⟩ | ⟨⟨h1, h2⟩, rfl⟩
        all_goals
          go_upto_region 12 with (go_at_call 17; (refine HDO.out.mono ?_); rintro e w6 ⟨v, rfl, hL6⟩; have HL6 := Lib.hid hL6; clear hL6)
          clear k0 k1
          cases gone
          case' true =>
            obtain ⟨hw0, hwn⟩ := HGN.out rfl
            obtain ⟨wn, rfl⟩ : ∃ wn : Nat, who = wn := ⟨who.toNat, by omega⟩
            have hwn' : wn < n := by omega
            have hq6 := HL6.out.kept (List.mem_cons_self ..)
            have k2' := hq6.cell 2 _ rfl
            have hql6 := hq6.lt
            have hkey : ∃ g2, ao = some ⟨g2, 0, none⟩ ∧ g2 < w6.heap.size ∧ w6.cell? ⟨g2, wn, none⟩ = some (.int .i64 (o.getD wn 0)) ∧ w6.frozen? ⟨g2, wn, none⟩ = false := by
              obtain ⟨ao', oc', e, _, _, hat⟩ := oRow_slice (HL6.out.rowO (List.mem_cons_of_mem _ (List.mem_cons_self ..)))
              injection e with e1 e2 e3
              obtain ⟨g2, h1, h2⟩ := hat wn (by have := HN.out; omega)
              exact ⟨g2, e1.trans h1, h2⟩
            obtain ⟨g2, rfl, hg2, d0, f0⟩ := hkey
            have HL7 := Lib.hid (((HL6.out.weak (K' := []) (R' := [oRow (.slice (some ⟨g2, 0, none⟩) n oc) o, acRow v l]) (fun x hx => by cases hx) (fun x hx => by simp only [List.mem_cons, List.not_mem_nil, or_false] at hx ⊢; exact hx.symm)).setO (fun x hx => by cases hx) (fun x hx => by rw [List.mem_singleton.1 hx]; exact (by decide : (27 : Nat) ≠ 3)) HN.out hwn' (-1)))
            have HOWN := Lib.hid (show ownL (o.set wn (-1)) l = some o' by have h := HOWN.out; simpa [goneO] using h)
            have HN := Lib.hid (show n = (o.set wn (-1)).length by rw [List.length_set]; exact HN.out)
            generalize o.set wn (-1) = o1 at HL7 HOWN HN
            generalize o.getD wn 0 = od at d0
            clear k2 hql hq6 hw0 hwn
            go_upto_region 16 with fail
            generalize w6.setCell ⟨g2, wn, none⟩ (.int .i64 (-1)) = w7 at HL7 ⊢
            clear k2' hql6 d0 f0 hg2
            generalize (some ⟨g2, 0, none⟩ : Option Addr) = ao at HL7 ⊢
          case' false =>
            have HL7 := Lib.hid (HL6.out.weak (K' := []) (R' := [oRow (.slice ao n oc) o, acRow v l]) (fun x hx => by cases hx) (fun x hx => by simp only [List.mem_cons, List.not_mem_nil, or_false] at hx ⊢; exact hx.symm))
            have HOWN := Lib.hid (show ownL o l = some o' by have h := HOWN.out; simpa [goneO] using h)
            clear k2 hql
            go_upto_region 16 with fail
          all_goals
            have z27 := zero27
            obtain ⟨al, lc, rfl, hl1, hl2, -⟩ := acRow_at (HL7.out.rowA (List.mem_cons_of_mem _ (List.mem_cons_self ..)))
            obtain ⟨m, hm⟩ : ∃ m, m = l.length := ⟨_, rfl⟩
            rw [← hm] at hl1 HL7 ⊢
            have HM := Lib.hid hm
            clear hm
            have HOX := Lib.hid (And.intro ho1 ho2)
            clear ho1 ho2
            go_upto_region 17 with fail
            go_loopw [8, 79] (fun ov i wr => ∃ (i2 : Nat) (o2 : List Int), i2 ≤ m ∧ i = .int .i64 i2 ∧ Lq w wr p P2 [] [oRow ov o2, acRow (.slice al m lc) l] ∧ ownL o2 (l.drop i2) = some o') (fun _ i _ => m - (intOf i).toNat)
            case atStart => exact ⟨0, _, Nat.zero_le _, rfl, HL7.out, HOWN.out⟩
            case round =>
              obtain ⟨i2, o2, hi2, rfl, hL8, how⟩ := hrel
              have hoL := hL8.rowO (List.mem_cons_self ..)
              obtain ⟨ao2, oc2, rfl, hp1, hp2, -⟩ := oRow_slice hoL
              have HL8 := Lib.hid hL8
              by_cases hlt2 : i2 < m
              · have hil : i2 < l.length := by rw [← HM.out]; exact hlt2
                rw [List.drop_eq_getElem_cons hil] at how
                obtain ⟨o3, hs3, how3⟩ := ownL_cons how
                have hO3 := ownL_len how3
                obtain ⟨al', lc', e, _, _, hat⟩ := acRow_at (by have := hL8.rowA (List.mem_cons_of_mem _ (List.mem_cons_self ..)); exact this)
                injection e with e1 e2 e3
                obtain ⟨g7, h7, hg7, k0, k1, k2⟩ := hat i2 hil
                have e1' := e1.trans h7
                obtain ⟨y, hy⟩ : ∃ y, y = l[i2] := ⟨_, rfl⟩
                rw [← hy] at k0 k1 k2 hs3
                clear hat e1 e2 e3 h7 hy hil how hL8 hoL
                subst e1'
                obtain ⟨yk, yc, yw⟩ := y
                simp only at k0 k1 k2
                have HOW3 := Lib.hid how3
                have HO3 := Lib.hid hO3
                clear how3 hO3
                go_upto_region 19 with fail
                have hL9 := HL8.out.act yk yc yw
                obtain ⟨q7, hq7⟩ : ∃ q7, q7 = wr.heap.size := ⟨_, rfl⟩
                rw [← hq7] at hL9 ⊢
                clear hq7 k0 k1 k2
                generalize wr.alloc (Obj.cells #[.int .i64 yk, .int .i64 yc, .int .i64 yw] 27) = w9 at hL9 ⊢
                have hb9 := hL9.kept (List.mem_cons_self ..)
                have k0 := hb9.cell 0 _ rfl
                have k1 := hb9.cell 1 _ rfl
                have k2 := hb9.cell 2 _ rfl
                have hql9 := hb9.lt
                have hK9 : ∀ x ∈ [((q7, [Value.int .i64 yk, .int .i64 yc, .int .i64 yw], 27) : Nat × List Value × TypeId)], x.2.2 ≠ 3 := fun x hx => by rw [List.mem_singleton.1 hx]; exact (by decide : (27 : Nat) ≠ 3)
                have hR9 : ∀ x ∈ [acRow (.slice (some ⟨g7, 0, none⟩) m lc) l], x.e ≠ 3 := fun x hx => by rw [List.mem_singleton.1 hx]; exact (by decide : (27 : Nat) ≠ 3)
                have HK9 := Lib.hid hK9
                have HR9 := Lib.hid hR9
                have HL9 := Lib.hid hL9
                clear hb9 hL9 hK9 hR9
                obtain ⟨n2, hn2⟩ : ∃ n2, n2 = o2.length := ⟨_, rfl⟩
                have hat2 : ∀ j, j < n2 → ∃ g, ao2 = some ⟨g, 0, none⟩ ∧ g < w9.heap.size ∧ w9.cell? ⟨g, j, none⟩ = some (.int .i64 (o2.getD j 0)) ∧ w9.frozen? ⟨g, j, none⟩ = false := fun j hj => by
                  obtain ⟨ao', oc', e, _, _, hat⟩ := oRow_slice (HL9.out.rowO (List.mem_cons_self ..))
                  injection e with e1 e2 e3
                  obtain ⟨g2, h1, h2⟩ := hat j (by omega)
                  exact ⟨g2, e1.trans h1, h2⟩
                rw [← hn2] at hp1 HL9 ⊢
                have HN2 := Lib.hid hn2
                unfold ownS at hs3
                simp only at hs3
                by_cases hk1 : yk = 1
                · rw [if_pos hk1] at hs3
                  by_cases hc : yc = o2.length
                  · rw [if_pos hc] at hs3
                    injection hs3 with hs3
                    have hyc : yc = (n2 : Int) := by rw [hc, hn2]
                    have hn2b : n2 + 1 ≤ j + 1 := by
                      have h1 := HOW3.out
                      have h2 := ownL_len h1
                      rw [← hs3, List.length_append, List.length_singleton] at h2
                      have := HO'.out
                      omega
                    subst hk1 hyc hs3
                    have HROW := Lib.hid (show w9.ownsRow w.heap.size 3 1 (.slice ao2 n2 oc2) n2 (ints o2) by have h := HL9.out.rowO (List.mem_cons_self ..); rw [← HN2.out] at h; exact h)
                    have hsz9 := HL9.out.size
                    clear hat2 hn2 hc
                    go_upto_region 32 with (at_builtin; refine wpList_append_row rfl (.tmp 92) (.tmp 95) 51 rfl w.heap.size 3 i3 (.int .i64 0) 1 8 Try.underlying51 hi3 hz0 hz1 hz2 rfl (by decide) (.slice ao2 n2 oc2) n2 (ints o2) rfl (HROW.out.alloc _) (some ⟨w9.heap.size, 0, none⟩) 1 1 [.int .i64 yw] rfl rfl (fun _ => ⟨_, rfl, new_one _ _ _⟩) (fun e => by cases e) (one_int _ _) (by unfold maxLen; omega) (by omega) (by simp only [World.size_alloc]; omega) ?_; intro v10 w10 hown10 hon10 hat10 _; obtain ⟨a10, k10, rfl, _, _, _, _⟩ := ownsRow_slice hown10; have HO10 := Lib.hid hown10; have HN10 := Lib.hid hon10; have HA10 := Lib.hid hat10; clear hown10 hon10 hat10)
                    have hL10 := (HL9.out.only0 ((Only.refl (fun _ => False) w9).alloc (Obj.cells #[.int .i64 yw] 3))).turnO (v' := .slice a10 (n2 + 1) k10) (o' := o2 ++ [yw]) HK9.out HR9.out HN10.out (by rw [List.length_append, List.length_singleton, ← HN2.out, ints_append]; exact HO10.out) (fun k hk => by
                      rcases HA10.out with e | e
                      · exact .inl (by rw [← e]; exact hk)
                      · rw [e] at hk; injection hk with hk; exact .inr (by omega))
                    have HL10 := Lib.hid (hL10.weak (K' := []) (R' := [oRow (.slice a10 (n2 + 1) k10) (o2 ++ [yw]), acRow (.slice (some ⟨g7, 0, none⟩) m lc) l]) (fun x hx => by cases hx) (fun x hx => hx))
                    clear hL10 k0 k1 k2 hql9
                    go_wp2
                    go_roundw
                    case rel => exact ⟨i2 + 1, o2 ++ [yw], by omega, by go_num, HL10.out, HOW3.out⟩
                    case measure => simp [intOf]; omega
                  · rw [if_neg hc] at hs3; cases hs3
                · rw [if_neg hk1] at hs3
                  by_cases hk2 : yk = 2
                  · rw [if_pos hk2] at hs3
                    by_cases hc : 0 ≤ yc ∧ yc < o2.length ∧ o2.getD yc.toNat 0 = -1
                    · rw [if_pos hc] at hs3
                      injection hs3 with hs3
                      obtain ⟨hc1, hc2, hc3⟩ := hc
                      obtain ⟨cn, rfl⟩ : ∃ cn : Nat, yc = cn := ⟨yc.toNat, by omega⟩
                      simp only [Int.toNat_natCast] at hs3 hc3
                      have hcn : cn < n2 := by omega
                      subst hk2 hs3
                      obtain ⟨g2, rfl, hg2, d0, f0⟩ := hat2 cn hcn
                      rw [hc3] at d0
                      have HL10 := Lib.hid ((HL9.out.setO HK9.out HR9.out HN2.out hcn yw).weak (K' := []) (R' := [oRow (.slice (some ⟨g2, 0, none⟩) n2 oc2) (o2.set cn yw), acRow (.slice (some ⟨g7, 0, none⟩) m lc) l]) (fun x hx => by cases hx) (fun x hx => hx))
                      clear hat2 hn2 hc1 hc2 hc3 hk1
                      go_wp2
                      go_roundw
                      case rel => exact ⟨i2 + 1, o2.set cn yw, by omega, by go_num, HL10.out, HOW3.out⟩
                      case measure => simp [intOf]; omega
                    · rw [if_neg hc] at hs3; cases hs3
                  · rw [if_neg hk2] at hs3
                    by_cases hk5 : yk = 5
                    · rw [if_pos hk5] at hs3
                      by_cases hc : 0 ≤ yc ∧ yc < o2.length
                      · rw [if_pos hc] at hs3
                        injection hs3 with hs3
                        obtain ⟨hc1, hc2⟩ := hc
                        obtain ⟨cn, rfl⟩ : ∃ cn : Nat, yc = cn := ⟨yc.toNat, by omega⟩
                        simp only [Int.toNat_natCast] at hs3
                        have hcn : cn < n2 := by omega
                        subst hk5 hs3
                        obtain ⟨g2, rfl, hg2, d0, f0⟩ := hat2 cn hcn
                        generalize o2.getD cn 0 = od at d0
                        have HL10 := Lib.hid ((HL9.out.setO HK9.out HR9.out HN2.out hcn (-1)).weak (K' := []) (R' := [oRow (.slice (some ⟨g2, 0, none⟩) n2 oc2) (o2.set cn (-1)), acRow (.slice (some ⟨g7, 0, none⟩) m lc) l]) (fun x hx => by cases hx) (fun x hx => hx))
                        clear hat2 hn2 hc1 hc2 hk1 hk2
                        go_wp2
                        go_roundw
                        case rel => exact ⟨i2 + 1, o2.set cn (-1), by omega, by go_num, HL10.out, HOW3.out⟩
                        case measure => simp [intOf]; omega
                      · rw [if_neg hc] at hs3; cases hs3
                    · rw [if_neg hk5] at hs3
                      injection hs3 with hs3
                      subst hs3
                      have b1 : (yk == 1) = false := beq_eq_false_iff_ne.2 hk1
                      have b2 : (yk == 2) = false := beq_eq_false_iff_ne.2 hk2
                      have b5 : (yk == 5) = false := beq_eq_false_iff_ne.2 hk5
                      have HL10 := Lib.hid (HL9.out.weak (K' := []) (R' := [oRow (.slice ao2 n2 oc2) o2, acRow (.slice (some ⟨g7, 0, none⟩) m lc) l]) (fun x hx => by cases hx) (fun x hx => hx))
                      clear hat2 hn2 hk1 hk2 hk5
                      go_wp2
                      go_roundw
                      case rel => exact ⟨i2 + 1, o2, by omega, by go_num, HL10.out, HOW3.out⟩
                      case measure => simp [intOf]; omega
              · have hmi : i2 = m := by omega
                have he : o2 = o' := by
                  rw [hmi, HM.out, List.drop_length] at how
                  injection how
                subst he
                have HLF := Lib.hid (HL8.out.weak (K' := []) (R' := [oRow (.slice ao2 o2.length oc2) o2]) (fun x hx => hx) (fun x hx => by rw [List.mem_singleton.1 hx]; exact List.mem_cons_self ..))
                clear how hL8 hoL
                go_wp2_with fail
                go_roundw
                case rel => exact ⟨j + 1, _, P2, o2, by omega, by go_num, rfl, ht2, HLF.out, HI2.out, HGD2.out⟩
                case measure => simp [intOf]; omega
      · go_wp2_with (go_at_call 13; (with_reducible refine (speaks_ok _).mono ?_); rintro e w5 ⟨rfl, hS⟩)
        go_ret
        exact ⟨rfl, HL2.out.below.trans (hS.mono HL2.out.size)⟩
  · have HBAD := Lib.hid hbad
    have HBL := Lib.hid hbl
    clear hbad hbl
    go_enter Try.func6, Try.ntmps6
    go_upto_region 1 with fail
    generalize hg : w.heap.size = g at hbk ⊢
    generalize hw1 : w.alloc (Obj.cells #[.int .i64 a, .int .i64 b, .int .i64 c, .int .i64 d] 44) = w1 at hbk ⊢
    rw [hg, hw1] at HBL
    have c0 := hbk.cell 0 _ rfl
    have c1 := hbk.cell 1 _ rfl
    have c2 := hbk.cell 2 _ rfl
    have c3 := hbk.cell 3 _ rfl
    have hgl := hbk.lt
    clear hbk hw1
    go_wp2_with (first
      | (go_at_call 8; (refine (HBAD.out _).mono ?_); rintro e w2 ⟨rfl, rfl⟩)
      | (go_at_call 13; (with_reducible refine (speaks_ok _).mono ?_); rintro e w5 ⟨rfl, hS⟩))
    go_ret
    refine ⟨rfl, ?_⟩
    rw [hg]
    exact HBL.out.trans (hS.mono (by have := HBL.out.size; omega))
end Go.Proofs.Ytmpcffkandmacaa
