/- PoolSteps. -/
import Derived.Test.YtmpcffkandmacaaAsks
namespace Go.Proofs.Ytmpcffkandmacaa
open Go.RowKit
set_option linter.unusedVariables false
set_option linter.unusedSimpArgs false

theorem newP_inv' {a b c d : Nat} (h : OkN (newP a b c d)) : Inv (newP a b c d) 0 :=
  ⟨⟨h, fun x hx => (by cases hx), Nat.zero_le _, Nat.zero_le _, Nat.le_refl _, Nat.le_refl _⟩, .inl rfl⟩
/-- The numbers are right, or both refuse them. -/
theorem new_both (a b c d : Int) : (∃ a' b' c' d' : Nat, a = a' ∧ b = b' ∧ c = c' ∧ d = d' ∧ OkN (newP a' b' c' d')) ∨
    ((∀ w, Calls Try.prog 8 #[.int .i64 a, .int .i64 b, .int .i64 c, .int .i64 d] w fun e w' => e = .returned (.tuple #[.pointer none, .int .i64 1]) ∧ w = w') ∧ ∀ w, Calls Try.prog 18 #[.int .i64 a, .int .i64 b, .int .i64 c, .int .i64 d] w fun e w' => e = .returned (.tuple #[.pointer none, .int .i64 1]) ∧ w = w') := by
  by_cases h : 1 ≤ a ∧ a ≤ 64 ∧ 0 ≤ b ∧ b ≤ 64 ∧ (1 ≤ c ∧ c ≤ 1000000) ∧ (1 ≤ d ∧ d ≤ 1000000)
  · obtain ⟨h1, h2, h3, h4, ⟨h5, h6⟩, h7, h8⟩ := h
    refine .inl ⟨a.toNat, b.toNat, c.toNat, d.toNat, by omega, by omega, by omega, by omega, ⟨?_, ?_, ?_, ?_⟩⟩ <;> simp only [newP] <;> omega
  · exact .inr ⟨fun w => new_bad a b c d h w, fun w => gnew_bad a b c d h w⟩
section
variable {w0 w w1 w2 w3 : World} {p g : Nat} {P : Pp} {K : Kept} {R : List Rowd}
theorem d2_made {a b c d : Nat} (hb : Below w0.heap.size w0 w1) (h1 : NewP w1 w2 p (newP a b c d)) (h2 : GNew w2 w3 g (newP a b c d)) : D2 w0 w3 p g (newP a b c d) (newP a b c d) [] [] := by
  obtain ⟨hp, ho1⟩ := h1
  obtain ⟨hg, ho2⟩ := h2
  have hs1 := hb.size
  have hs2 := ho1.size
  have hp3 := hp.only ho2 (fun _ _ h => h)
  refine ⟨[], .slice none 0 0, .slice none 0 0, [], .slice none 0 0, .slice none 0 0, .slice none 0 0, ?_, ?_, ⟨[], rel_new a b c d⟩, ?_, ?_, fun x hx => (by cases hx), fun x hx => (by cases hx)⟩
  · exact ⟨hp3.blk, World.ownsRow_nil _ _ _ _, WRow.nil _ _, Nat.le_trans hs1 hp3.low, rfl, fun i j x y hi => (by simp at hi), fun x hx => (by cases hx)⟩
  · exact ⟨hg.blk, World.ownsRow_nil _ _ _ _, World.ownsRow_nil _ _ _ _, World.ownsRow_nil _ _ _ _, Nat.le_trans hs1 (Nat.le_trans hs2 hg.low), hg.sep⟩
  · exact (hb.trans (ho1.below hs1 (fun _ h => h.elim))).trans (ho2.below (Nat.le_trans hs1 hs2) (fun _ h => h.elim))
  · intro k hk hk2
    have e1 : k = p := by
      rcases hk with e | ⟨x, hx, _⟩ | e | e
      · exact e
      · cases hx
      · cases e
      · cases e
    have e2 : k = g := by
      rcases hk2 with e | e | e | e
      · exact e
      · cases e
      · cases e
      · cases e
    have := hp.blk.lt
    have := hg.low
    omega
variable {k : Nat}
theorem d_next (h : D2 w0 w p g P P K R) (hk : Okp P k) {r : Nat} {f : Bool} (hf : FirstR (nextL P P.l) r f) :
    Calls Try.prog 20 #[ptr p] w fun e w' => e = .returned (.tuple #[.int .i64 r, .bool f]) ∧ D2 w0 w' p g P P K R := by
  have h0 := h
  obtain ⟨X, vl, vw, Rs, gl, gr, gw, h⟩ := h
  exact (next_any h.pp hk hf).mono (by rintro e w' ⟨rfl, ho⟩; exact ⟨rfl, h0.only0 ho⟩)
theorem e_soon (h : D2 w0 w p g P P K R) (hk : Okp P k) {r : Nat} {f : Bool} (hf : FirstR (nextL P P.l) r f) :
    Calls Try.prog 21 #[ptr g] w fun e w' => e = .returned (.tuple #[.int .i64 r, .bool f]) ∧ D2 w0 w' p g P P K R := by
  have h0 := h
  obtain ⟨X, vl, vw, Rs, gl, gr, gw, h⟩ := h
  exact (gsoon_any h.gq hk hf).mono (by rintro e w' ⟨rfl, ho⟩; exact ⟨rfl, h0.only0 ho⟩)
theorem d_size (h : D2 w0 w p g P P K R) :
    Calls Try.prog 12 #[ptr p] w fun e w' => e = .returned (.tuple #[.int .i64 (P.l.length : Nat), .int .i64 (resting P.l : Nat), .int .i64 (P.waits.length : Nat)]) ∧ D2 w0 w' p g P P K R := by
  have h0 := h
  obtain ⟨X, vl, vw, Rs, gl, gr, gw, h⟩ := h
  exact (size_any h.pp).mono (by rintro e w' ⟨rfl, ho⟩; exact ⟨rfl, h0.only0 ho⟩)
/-- The reference's lengths. -/
theorem e_lens (h : D2 w0 w p g P P K R) : ∃ a1 a2 a3 c1 c2 c3, w.cell? ⟨g, 5, none⟩ = some (.slice a1 P.l.length c1) ∧ w.cell? ⟨g, 6, none⟩ = some (.slice a2 (resting P.l) c2) ∧ w.cell? ⟨g, 7, none⟩ = some (.slice a3 P.waits.length c3) ∧ g < w.heap.size := by
  obtain ⟨X, vl, vw, Rs, gl, gr, gw, h⟩ := h
  obtain ⟨a1, c1, rfl, _⟩ := ownsRow_slice h.gp.row
  obtain ⟨a2, c2, rfl, _⟩ := ownsRow_slice h.gp.rr
  obtain ⟨a3, c3, rfl, _⟩ := ownsRow_slice h.gp.wt
  obtain ⟨Cs, hr⟩ := h.rel
  obtain ⟨_, _, _, _, d5, d6, d7, hpl⟩ := h.gp.cells
  rw [hr.len] at d6
  exact ⟨a1, a2, a3, c1, c2, c3, d5, d6, d7, hpl⟩
end
set_option maxRecDepth 100000 in
set_option maxHeartbeats 1600000 in
theorem steps_walk (a b c d : Int) (a1 : Option Addr) (len1 cap1 : Nat) (w : World) (hs : Steps w a1 len1) (hr : len1 * 24 ≤ 140737488351232) :
    Calls Try.prog 7 #[askV a b c d, .slice a1 len1 cap1] w fun e w' => e = .returned (.bool true) ∧ Below w.heap.size w w' := by
  have hmax := hs.max
  have hlen : len1 < 9223372036854775806 := by omega
  clear hr
  have HS := Lib.hid hs
  clear hs
  have hbk : Blk (w.alloc (Obj.cells #[.int .i64 a, .int .i64 b, .int .i64 c, .int .i64 d] 44)) w.heap.size [.int .i64 a, .int .i64 b, .int .i64 c, .int .i64 d] 44 := Blk.new w [.int .i64 a, .int .i64 b, .int .i64 c, .int .i64 d] 44
  have hbl : Below w.heap.size w (w.alloc (Obj.cells #[.int .i64 a, .int .i64 b, .int .i64 c, .int .i64 d] 44)) := ((Only.refl (fun _ => False) w).alloc _).below (Nat.le_refl _) (fun _ h => h.elim)
  rcases new_both a b c d with ⟨a, b, c, d, rfl, rfl, rfl, rfl, hok⟩ | ⟨hbad1, hbad2⟩
  · have HNEW := Lib.hid (fun w => new_ok a b c d hok w)
    have HGNEW := Lib.hid (fun w => gnew_ok a b c d hok w)
    have HOK := Lib.hid hok
    have HBL := Lib.hid hbl
    clear hok hbl
    go_enter Try.func7, Try.ntmps7
    go_upto_region 1 with fail
    obtain ⟨q, hq⟩ : ∃ q, q = w.heap.size := ⟨_, rfl⟩
    rw [← hq] at hbk ⊢
    clear hq
    generalize w.alloc (Obj.cells #[.int .i64 a, .int .i64 b, .int .i64 c, .int .i64 d] 44) = w1 at hbk HBL ⊢
    have c0 := hbk.cell 0 _ rfl
    have c1 := hbk.cell 1 _ rfl
    have c2 := hbk.cell 2 _ rfl
    have c3 := hbk.cell 3 _ rfl
    have hgl := hbk.lt
    have HBK := Lib.hid hbk
    clear hbk
    go_upto_region 2 with (go_at_call 8; (refine (HNEW.out w1).mono ?_); rintro e w2 ⟨p, rfl, hL⟩; have HL := Lib.hid hL; clear hL)
    have hbk2 := HBK.out.only HL.out.2 (fun h => h)
    clear c0 c1 c2 c3 hgl
    have c0 := hbk2.cell 0 _ rfl
    have c1 := hbk2.cell 1 _ rfl
    have c2 := hbk2.cell 2 _ rfl
    have c3 := hbk2.cell 3 _ rfl
    have hgl := hbk2.lt
    clear hbk2
    go_upto_region 8 with (go_at_call 18; (refine (HGNEW.out w2).mono ?_); rintro e w3 ⟨g, rfl, hG⟩; have HD := Lib.hid (d2_made HBL.out HL.out hG); clear hG)
    clear c0 c1 c2 c3 hgl
    go_loopw [57] (fun i wr => ∃ (j : Nat) (P : Pp), j ≤ len1 ∧ i = .int .i64 j ∧ D2 w wr p g P P [] [] ∧ Inv P j) (fun i _ => len1 - (intOf i).toNat)
    case atStart => exact ⟨0, _, Nat.zero_le _, rfl, HD.out, newP_inv' HOK.out⟩
    case round =>
      obtain ⟨j, P, hj, rfl, hL, hI⟩ := hrel
      have HI := Lib.hid hI
      have HL2 := Lib.hid hL
      clear hI
      have z47 := zero47
      by_cases hlt : j < len1
      · obtain ⟨b1, off, rfl, hbl1, hst⟩ := HS.out.at_ (by omega)
        obtain ⟨kd, nw, who, hc0, hc1, hc2⟩ := hst j hlt
        have hblk := hL.below.block b1 hbl1
        have e0 := (World.cell?_of_block (a := ⟨b1, off + j * 3, none⟩) hblk).trans hc0
        have e1 := (World.cell?_of_block (a := ⟨b1, off + j * 3 + 1, none⟩) hblk).trans hc1
        have e2 := (World.cell?_of_block (a := ⟨b1, off + j * 3 + 2, none⟩) hblk).trans hc2
        clear hst hc0 hc1 hc2 hblk hL
        go_upto_region 10 with fail
        have hL4 := HL2.out.step_ kd nw who 47
        obtain ⟨q, hq⟩ : ∃ q, q = wr.heap.size := ⟨_, rfl⟩
        rw [← hq] at hL4 ⊢
        clear hq e0 e1 e2
        generalize wr.alloc (Obj.cells #[.int .i64 kd, .int .i64 nw, .int .i64 who] 47) = w4 at hL4 ⊢
        have hb4 := hL4.kept (List.mem_cons_self ..)
        have k0 := hb4.cell 0 _ rfl
        have k1 := hb4.cell 1 _ rfl
        have k2 := hb4.cell 2 _ rfl
        have hql := hb4.lt
        have HDO := Lib.hid (asks_any (hL4.weak (K' := []) (R' := []) (fun x hx => by cases hx) (fun x hx => hx)) HI.out.ok (by omega) kd nw who)
        have hi2 := (does_inv HI.out kd who nw).1
        clear hL4 hb4
        obtain ⟨P2, hP2⟩ : ∃ P2, P2 = (doesL P kd who nw).1 := ⟨_, rfl⟩
        rw [← hP2] at HDO hi2
        have HI2 := Lib.hid hi2
        clear hi2 hP2
        obtain ⟨r, f, hf⟩ := firstR_ex (nextL P2 P2.l)
        have HF := Lib.hid hf
        clear hf
        go_upto_region 15 with (first
          | (go_at_call 19; (refine HDO.out.mono ?_); rintro e w5 ⟨rfl, hL5⟩; have HL5 := Lib.hid hL5; clear hL5)
          | (go_at_call 20; (refine (d_next HL5.out HI2.out.ok HF.out).mono ?_); rintro e w6 ⟨rfl, hL6⟩; have HL6 := Lib.hid hL6; clear hL6)
          | (go_at_call 21; (refine (e_soon HL6.out HI2.out.ok HF.out).mono ?_); rintro e w7 ⟨rfl, hL7⟩; have HL7 := Lib.hid hL7; clear hL7)
          | (go_at_call 12; (refine (d_size HL7.out).mono ?_); rintro e w8 ⟨rfl, hL8⟩; have HL8 := Lib.hid hL8; clear hL8))
        obtain ⟨x1, x2, x3, y1, y2, y3, d5, d6, d7, hgl⟩ := e_lens HL8.out
        clear k0 k1 k2 hql
        generalize P2.l.length = n1 at d5 ⊢
        generalize resting P2.l = n2 at d6 ⊢
        generalize P2.waits.length = n3 at d7 ⊢
        go_wp2
        go_roundw
        case rel => exact ⟨j + 1, P2, by omega, by go_num, HL8.out, HI2.out⟩
        case measure => simp [intOf]; omega
      · go_wp2_with (go_at_call 13; (with_reducible refine (speaks_ok _).mono ?_); rintro e w5 ⟨rfl, hS⟩)
        go_ret
        exact ⟨rfl, HL2.out.below.trans (hS.mono HL2.out.size)⟩
  · have HBAD1 := Lib.hid hbad1
    have HBAD2 := Lib.hid hbad2
    have HBL := Lib.hid hbl
    clear hbad1 hbad2 hbl
    go_enter Try.func7, Try.ntmps7
    go_upto_region 1 with fail
    generalize hg : w.heap.size = g at hbk ⊢
    generalize hw1 : w.alloc (Obj.cells #[.int .i64 a, .int .i64 b, .int .i64 c, .int .i64 d] 44) = w1 at hbk ⊢
    rw [hg, hw1] at HBL
    have c0 := hbk.cell 0 _ rfl
    have c1 := hbk.cell 1 _ rfl
    have c2 := hbk.cell 2 _ rfl
    have c3 := hbk.cell 3 _ rfl
    have hgl := hbk.lt
    clear hbk hw1
    go_wp2_with (first
      | (go_at_call 8; (refine (HBAD1.out _).mono ?_); rintro e w2 ⟨rfl, rfl⟩)
      | (go_at_call 18; (refine (HBAD2.out _).mono ?_); rintro e w2 ⟨rfl, rfl⟩)
      | (go_at_call 13; (with_reducible refine (speaks_ok _).mono ?_); rintro e w5 ⟨rfl, hS⟩))
    go_ret
    refine ⟨rfl, ?_⟩
    rw [hg]
    exact HBL.out.trans (hS.mono (by have := HBL.out.size; omega))
end Go.Proofs.Ytmpcffkandmacaa
