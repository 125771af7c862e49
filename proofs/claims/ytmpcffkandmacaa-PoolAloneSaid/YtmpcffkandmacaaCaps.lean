/- PoolCaps. -/
import Derived.Test.YtmpcffkandmacaaDoes
namespace Go.Proofs.Ytmpcffkandmacaa
open Go.RowKit
set_option linter.unusedVariables false
set_option linter.unusedSimpArgs false

theorem resting_le (l : List Cn) : resting l ≤ l.length := List.length_filter_le _ _
theorem newP_inv {a b c d : Nat} (h : OkN (newP a b c d)) : Inv (newP a b c d) 0 :=
  ⟨⟨h, fun x hx => (by cases hx), Nat.zero_le _, Nat.zero_le _, Nat.le_refl _, Nat.le_refl _⟩, .inl rfl⟩
/-- The numbers are right, or New refuses them. -/
theorem new_case (a b c d : Int) : (∃ a' b' c' d' : Nat, a = a' ∧ b = b' ∧ c = c' ∧ d = d' ∧ OkN (newP a' b' c' d')) ∨ ∀ w, Calls Try.prog 8 #[.int .i64 a, .int .i64 b, .int .i64 c, .int .i64 d] w fun e w' => e = .returned (.tuple #[.pointer none, .int .i64 1]) ∧ w = w' := by
  by_cases h : 1 ≤ a ∧ a ≤ 64 ∧ 0 ≤ b ∧ b ≤ 64 ∧ (1 ≤ c ∧ c ≤ 1000000) ∧ (1 ≤ d ∧ d ≤ 1000000)
  · obtain ⟨h1, h2, h3, h4, ⟨h5, h6⟩, h7, h8⟩ := h
    refine .inl ⟨a.toNat, b.toNat, c.toNat, d.toNat, by omega, by omega, by omega, by omega, ⟨?_, ?_, ?_, ?_⟩⟩ <;> simp only [newP] <;> omega
  · exact .inr (fun w => new_bad a b c d h w)
section
variable {w0 w : World} {p : Nat} {P : Pp} {K : Kept} {R : List Rowd}
theorem lq_new {a b c d : Nat} (h : OkN (newP a b c d)) (w : World) : Calls Try.prog 8 #[.int .i64 a, .int .i64 b, .int .i64 c, .int .i64 d] w fun e w' => ∃ p, e = .returned (.tuple #[ptr p, .int .i64 0]) ∧ Lq w w' p (newP a b c d) [] [] :=
  (new_ok a b c d h w).mono (by rintro e w' ⟨p, rfl, h⟩; exact ⟨p, rfl, lq_made h⟩)
/-- What was laid ahead of the pool stays, too. -/
theorem Lq.base {w1 : World} {cs : List Value} {t : TypeId} (h : Lq (w0.alloc (.cells cs.toArray t)) w1 p P [] []) : Lq w0 w1 p P [(w0.heap.size, cs, t)] [] := by
  obtain ⟨X, vl, vw, h⟩ := h
  have hs : (w0.alloc (.cells cs.toArray t)).heap.size = w0.heap.size + 1 := by simp
  have hp : Pw w1 w0.heap.size p P X vl vw := by
    have hl : w0.heap.size ≤ (w0.alloc (.cells cs.toArray t)).heap.size := by omega
    refine ⟨h.pw.blk, ownsRow_lower h.pw.row hl, ?_, Nat.le_trans hl h.pw.low, h.pw.l, h.pw.ne, fun x hx => ⟨(h.pw.cn x hx).1, Nat.le_trans hl (h.pw.cn x hx).2⟩⟩
    rcases h.pw.wt with h' | ⟨g, off, cs', e, h1, h2⟩
    · exact .inl (ownsRow_lower h' hl)
    · exact .inr ⟨g, off, cs', e, Nat.le_trans hl h1, h2⟩
  refine ⟨X, vl, vw, hp, ?_, fun x hx => ?_, fun x hx => by cases hx⟩
  · have h1 : Below w0.heap.size w0 (w0.alloc (.cells cs.toArray t)) := ((Only.refl (fun _ => False) w0).alloc _).below (Nat.le_refl _) (fun _ h => h.elim)
    exact h1.trans (h.below.mono (by omega))
  · rw [List.mem_singleton.1 hx]
    refine ⟨(Blk.new w0 cs t).below h.below (by simp), Nat.le_refl _, fun hf => ?_⟩
    have := (h.pw.lt _ hf).1
    simp only at this
    omega
end
set_option maxRecDepth 100000 in
set_option maxHeartbeats 1600000 in
theorem caps_walk (a b c d : Int) (a1 : Option Addr) (len1 cap1 : Nat) (w : World) (hs : Steps w a1 len1) (hr : len1 * 24 ≤ 140737488351232) :
    Calls Try.prog 5 #[askV a b c d, .slice a1 len1 cap1] w fun e w' => e = .returned (.bool true) ∧ Below w.heap.size w w' := by
  have hmax := hs.max
  have hlen : len1 < 9223372036854775806 := by omega
  clear hr
  have HS := Lib.hid hs
  clear hs
  have hbk : Blk (w.alloc (Obj.cells #[.int .i64 a, .int .i64 b, .int .i64 c, .int .i64 d] 44)) w.heap.size [.int .i64 a, .int .i64 b, .int .i64 c, .int .i64 d] 44 := Blk.new w [.int .i64 a, .int .i64 b, .int .i64 c, .int .i64 d] 44
  have hbl : Below w.heap.size w (w.alloc (Obj.cells #[.int .i64 a, .int .i64 b, .int .i64 c, .int .i64 d] 44)) := ((Only.refl (fun _ => False) w).alloc _).below (Nat.le_refl _) (fun _ h => h.elim)
  rcases new_case a b c d with ⟨a, b, c, d, rfl, rfl, rfl, rfl, hok⟩ | hbad
  · have hnew := (lq_new hok (w.alloc (Obj.cells #[.int .i64 a, .int .i64 b, .int .i64 c, .int .i64 d] 44))).mono (R' := fun e w' => ∃ p, e = .returned (.tuple #[ptr p, .int .i64 0]) ∧ Lq w w' p (newP a b c d) [(w.heap.size, [.int .i64 a, .int .i64 b, .int .i64 c, .int .i64 d], 44)] []) (by rintro e w' ⟨p, rfl, h⟩; exact ⟨p, rfl, Lq.base (cs := [.int .i64 a, .int .i64 b, .int .i64 c, .int .i64 d]) h⟩)
    have HNEW := Lib.hid hnew
    have HOK := Lib.hid hok
    clear hnew hok hbl
    go_enter Try.func5, Try.ntmps5
    go_upto_region 1 with fail
    obtain ⟨g, hg⟩ : ∃ g, g = w.heap.size := ⟨_, rfl⟩
    rw [← hg] at hbk HNEW ⊢
    have HG := Lib.hid hg
    generalize w.alloc (Obj.cells #[.int .i64 a, .int .i64 b, .int .i64 c, .int .i64 d] 44) = w1 at hbk HNEW ⊢
    have c0 := hbk.cell 0 _ rfl
    have c1 := hbk.cell 1 _ rfl
    have c2 := hbk.cell 2 _ rfl
    have c3 := hbk.cell 3 _ rfl
    have hgl := hbk.lt
    clear hbk hg
    go_upto_region 6 with (go_at_call 8; (refine HNEW.out.mono ?_); rintro e w2 ⟨p, rfl, hL⟩; have HL := Lib.hid hL; clear hL)
    clear c0 c1 c2 c3 hgl
    obtain ⟨kk, hkk⟩ : ∃ kk : Kept, kk = [(g, [Value.int .i64 a, .int .i64 b, .int .i64 c, .int .i64 d], 44)] := ⟨_, rfl⟩
    rw [← hkk] at HL
    have HKK := Lib.hid hkk
    clear hkk
    go_loopw [7, 38] (fun nv i wr => ∃ (j t : Nat) (P : Pp), j ≤ len1 ∧ i = .int .i64 j ∧ nv = .int .i64 t ∧ t ≤ 2305843009213693952 ∧ Lq w wr p P kk [] ∧ Inv P j ∧ P.cap = a ∧ P.pend = b) (fun _ i _ => len1 - (intOf i).toNat)
    case atStart => exact ⟨0, 0, _, Nat.zero_le _, rfl, rfl, Nat.zero_le _, HL.out, newP_inv HOK.out, rfl, rfl⟩
    case round =>
      obtain ⟨j, t, P, hj, rfl, rfl, ht, hL, hI, hca, hpe⟩ := hrel
      have HI := Lib.hid hI
      have HCA := Lib.hid hca
      have HPE := Lib.hid hpe
      have HL2 := Lib.hid hL
      clear hI hca hpe
      have z47 := zero47
      by_cases hlt : j < len1
      · obtain ⟨b1, off, rfl, hbl1, hst⟩ := HS.out.at_ (by omega)
        obtain ⟨kd, nw, who, hc0, hc1, hc2⟩ := hst j hlt
        have hblk := hL.below.block b1 hbl1
        have e0 := (World.cell?_of_block (a := ⟨b1, off + j * 3, none⟩) hblk).trans hc0
        have e1 := (World.cell?_of_block (a := ⟨b1, off + j * 3 + 1, none⟩) hblk).trans hc1
        have e2 := (World.cell?_of_block (a := ⟨b1, off + j * 3 + 2, none⟩) hblk).trans hc2
        clear hst hc0 hc1 hc2 hblk hL
        go_upto_region 8 with fail
        have hL4 := HL2.out.step_ kd nw who
        obtain ⟨q, hq⟩ : ∃ q, q = wr.heap.size := ⟨_, rfl⟩
        rw [← hq] at hL4 ⊢
        clear hq e0 e1 e2
        generalize wr.alloc (Obj.cells #[.int .i64 kd, .int .i64 nw, .int .i64 who] 47) = w4 at hL4 ⊢
        have hb4 := hL4.kept (List.mem_cons_self ..)
        have k0 := hb4.cell 0 _ rfl
        have k1 := hb4.cell 1 _ rfl
        have k2 := hb4.cell 2 _ rfl
        have hql := hb4.lt
        have HL4 := Lib.hid hL4
        clear hL4 hb4
        obtain ⟨t2, ht2, hcase⟩ : ∃ t2 : Nat, t2 ≤ 2305843009213693952 ∧ ((((t : Int) < nw ∧ nw ≤ 2305843009213693952) ∧ nw = t2) ∨ (nw ≤ (t : Int) ∧ t2 = t) ∨ (((t : Int) < nw ∧ 2305843009213693952 < nw) ∧ t2 = t)) := by
          by_cases h1 : (t : Int) < nw
          · by_cases h2 : nw ≤ 2305843009213693952
            · exact ⟨nw.toNat, by omega, .inl ⟨⟨h1, h2⟩, by omega⟩⟩
            · exact ⟨t, ht, .inr (.inr ⟨⟨h1, by omega⟩, rfl⟩)⟩
          · exact ⟨t, ht, .inr (.inl ⟨by omega, rfl⟩)⟩
        have HDO := Lib.hid (does_any HL4.out HI.out.ok (by omega) kd nw who (t2 : Int))
        obtain ⟨hi2, hs2⟩ := does_inv HI.out kd who (t2 : Int)
        obtain ⟨D, hD⟩ : ∃ D, D = doesL P kd who (t2 : Int) := ⟨_, rfl⟩
        rw [← hD] at HDO hi2 hs2
        have HI2 := Lib.hid hi2
        have HS2 := Lib.hid hs2
        clear hi2 hs2 hD
        rcases hcase with ⟨⟨h1, h2⟩, rfl⟩ | ⟨h1, rfl⟩ | ⟨⟨h1, h2⟩, rfl⟩
        all_goals
          go_upto_region 11 with (go_at_call 17; (refine HDO.out.mono ?_); rintro e w6 ⟨v, rfl, hL6⟩; have HL6 := Lib.hid (hL6.weak (K' := kk) (R' := []) (fun x hx => List.mem_cons_of_mem _ hx) (fun x hx => by cases hx)); clear hL6)
          clear k0 k1 k2 hql
          obtain ⟨n, hn⟩ : ∃ n, n = D.1.l.length := ⟨_, rfl⟩
          obtain ⟨m, hm⟩ : ∃ m, m = resting D.1.l := ⟨_, rfl⟩
          obtain ⟨x, hx⟩ : ∃ x, x = D.1.waits.length := ⟨_, rfl⟩
          have hsz := lq_size HL6.out
          rw [← hn, ← hm, ← hx] at hsz
          have HSZ := Lib.hid hsz
          have hmn : m ≤ n := by rw [hm, hn]; exact resting_le _
          have hna : n ≤ a := by rw [hn, ← HCA.out, ← HS2.out.1]; exact HI2.out.ok.c
          have hxb : x ≤ b := by rw [hx, ← HPE.out, ← HS2.out.2]; exact HI2.out.ok.p
          have hxn : x = 0 ∨ a ≤ n := by
            rcases HI2.out.t with h | h
            · left; rw [hx, h]; rfl
            · right; rw [hn, ← HCA.out, ← HS2.out.1]; exact h
          clear hn hm hx hsz
          go_upto_region 12 with (go_at_call 12; (refine HSZ.out.mono ?_); rintro e w7 ⟨rfl, hL7⟩; have hb7 := hL7.kept (g := g) (cs := [Value.int .i64 a, .int .i64 b, .int .i64 c, .int .i64 d]) (t := 44) (by rw [HKK.out]; exact List.mem_cons_self ..); have c0 := hb7.cell 0 _ rfl; have c1 := hb7.cell 1 _ rfl; have hgl := hb7.lt; have HL7 := Lib.hid hL7; clear hL7 hb7)
          rcases hxn with rfl | hxn
          · go_wp2
            go_roundw
            case rel => exact ⟨j + 1, _, D.1, by omega, by go_num, rfl, ht2, HL7.out, HI2.out, HS2.out.1.trans HCA.out, HS2.out.2.trans HPE.out⟩
            case measure => simp [intOf]; omega
          · by_cases hx0 : x = 0
            · subst hx0
              go_wp2
              go_roundw
              case rel => exact ⟨j + 1, _, D.1, by omega, by go_num, rfl, ht2, HL7.out, HI2.out, HS2.out.1.trans HCA.out, HS2.out.2.trans HPE.out⟩
              case measure => simp [intOf]; omega
            · go_wp2
              go_roundw
              case rel => exact ⟨j + 1, _, D.1, by omega, by go_num, rfl, ht2, HL7.out, HI2.out, HS2.out.1.trans HCA.out, HS2.out.2.trans HPE.out⟩
              case measure => simp [intOf]; omega
      · go_wp2_with (go_at_call 13; (with_reducible refine (speaks_ok _).mono ?_); rintro e w5 ⟨rfl, hS⟩)
        go_ret
        exact ⟨rfl, HL2.out.below.trans (hS.mono HL2.out.size)⟩
  · have HBAD := Lib.hid hbad
    have HBL := Lib.hid hbl
    clear hbad hbl
    go_enter Try.func5, Try.ntmps5
    go_upto_region 1 with fail
    generalize hg : w.heap.size = g at hbk ⊢
    generalize hw1 : w.alloc (Obj.cells #[.int .i64 a, .int .i64 b, .int .i64 c, .int .i64 d] 44) = w1 at hbk ⊢
    rw [hg, hw1] at HBL
    have c0 := hbk.cell 0 _ rfl
    have c1 := hbk.cell 1 _ rfl
    have c2 := hbk.cell 2 _ rfl
    have c3 := hbk.cell 3 _ rfl
    have hgl := hbk.lt
    clear hbk hw1
    go_wp2_with (first
      | (go_at_call 8; (refine (HBAD.out _).mono ?_); rintro e w2 ⟨rfl, rfl⟩)
      | (go_at_call 13; (with_reducible refine (speaks_ok _).mono ?_); rintro e w5 ⟨rfl, hS⟩))
    go_ret
    refine ⟨rfl, ?_⟩
    rw [hg]
    exact HBL.out.trans (hS.mono (by have := HBL.out.size; omega))
end Go.Proofs.Ytmpcffkandmacaa
