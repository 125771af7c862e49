/- The reference: Expire, Soon. -/
import Derived.Test.YtmpcffkandmacaaGWalks8
namespace Go.Proofs.Ytmpcffkandmacaa
open Go.RowKit
set_option linter.unusedVariables false
set_option linter.unusedSimpArgs false

def cutN (l : List Cn) : List Ac → List Cn
  | [] => l
  | a :: bs => cutN (others l a.conn) bs
theorem cutN_snoc : ∀ (bs : List Ac) (l : List Cn) (a : Ac), cutN l (bs ++ [a]) = others (cutN l bs) a.conn
  | [], l, a => rfl
  | b :: bs, l, a => by rw [List.cons_append, cutN, cutN_snoc bs, cutN]
theorem cutN_len : ∀ (bs : List Ac) (l : List Cn), (cutN l bs).length ≤ l.length
  | [], l => Nat.le_refl _
  | a :: bs, l => Nat.le_trans (cutN_len bs _) (others_len _ _)
theorem mem_cutN : ∀ (bs : List Ac) (l : List Cn), cutN l bs = l.filter (fun c => decide (∀ a ∈ bs, (c.num : Int) ≠ a.conn))
  | [], l => by
    rw [cutN]
    exact (List.filter_eq_self.2 (fun c hc => by simp)).symm
  | a :: bs, l => by
    rw [cutN, mem_cutN bs]
    unfold others
    rw [List.filter_filter]
    refine List.filter_congr (fun c hc => ?_)
    rw [← Bool.decide_and]
    refine decide_eq_decide.2 ?_
    simp only [List.forall_mem_cons]
    exact and_comm
section
variable {F : Nat → Prop} {w0 w : World} {lo p : Nat} {P : Pp} {R : List Nat} {vl vr vw : Value} {Cs : List Cn}
theorem RelC.expired (h : RelC P R Cs) (now : Nat) : cutN P.l (closes P now) = (expireL P now).l := by
  rw [mem_cutN]
  show _ = P.l.filter fun c => !stale P now c
  refine List.filter_congr (fun c hc => ?_)
  cases hs : stale P now c with
  | true =>
    refine decide_eq_false (fun hall => ?_)
    refine hall ⟨5, c.num, -1⟩ ?_ rfl
    unfold closes
    exact List.mem_map.2 ⟨c, List.mem_filter.2 ⟨hc, hs⟩, rfl⟩
  | false =>
    refine decide_eq_true (fun a ha => ?_)
    unfold closes at ha
    obtain ⟨c', hc', rfl⟩ := List.mem_map.1 ha
    obtain ⟨hm, hs'⟩ := List.mem_filter.1 hc'
    intro e
    have e2 : (c.num : Int) = c'.num := e
    have := h.inj_mem hc hm (by omega)
    subst this
    rw [hs] at hs'
    cases hs'
theorem exC_at {j : Nat} (hj : j < P.l.length) (now : Nat) : exC P now (j + 1) = exC P now j ++ if stale P now (cnAt P.l j) then [⟨5, (cnAt P.l j).num, -1⟩] else [] := by
  unfold exC
  rw [List.take_succ_eq_append_getElem hj, List.filter_append, List.map_append, cnAt_eq hj]
  congr 1
  cases hs : stale P now P.l[j] with
  | true => simp [hs]
  | false => simp [hs]
theorem acRowG_at {e lo : Nat} {v : Value} {l : List Ac} {n : Nat} (hn : n = l.length) (h : w.ownsRow lo e 3 v n (acCells l)) {ao : Option Addr} {cap : Nat} (hv : v = .slice ao n cap) {j : Nat} (hj : j < l.length) :
    ∃ g, ao = some ⟨g, 0, none⟩ ∧ g < w.heap.size ∧ w.cell? ⟨g, j * 3, none⟩ = some (.int .i64 l[j].kind) ∧ w.cell? ⟨g, j * 3 + 1, none⟩ = some (.int .i64 l[j].conn) ∧ w.cell? ⟨g, j * 3 + 2, none⟩ = some (.int .i64 l[j].who) := by
  obtain ⟨g', cap', C, e', a1, a2, _⟩ := ownsRow_blk h (by omega)
  rw [hv] at e'
  injection e' with e1 _ e3
  subst e1
  have key : ∀ k, k < 3 → (acCells l ++ C)[j * 3 + k]? = (acC l[j])[k]? := fun k hk => by
    rw [List.getElem?_append_left (by rw [acCells_len]; omega)]
    exact flat_get acC_len hj hk
  refine ⟨g', rfl, a2.lt, ?_, ?_, ?_⟩
  · have := key 0 (by decide)
    rw [Nat.add_zero] at this
    rw [a2.cellAt, this]; rfl
  · rw [a2.cellAt, key 1 (by decide)]; rfl
  · rw [a2.cellAt, key 2 (by decide)]; rfl
/-- What stands ahead of a round of cuts. -/
structure ECut (F : Nat → Prop) (w0 w wr : World) (lo p : Nat) (P : Pp) (v : Value) (L : List Ac) (i : Nat) : Prop where
  pp : ∃ Ri, Rel { P with l := cutN P.l (L.take i) } Ri ∧ GP F w0 wr lo p { P with l := cutN P.l (L.take i) } Ri
  row : wr.ownsRow w.heap.size 82 3 v L.length (acCells L)
  sz : w.heap.size ≤ wr.heap.size
theorem ECut.step {wr : World} {v : Value} {L : List Ac} {i : Nat} (h : ECut F w0 w wr lo p P v L i) (hi : i < L.length) (h64 : P.l.length ≤ 64) :
    Calls Try.prog 59 #[ptr p, .int .i64 L[i].conn] wr fun e w' => e = .returned (.tuple #[]) ∧ ECut F w0 w w' lo p P v L (i + 1) := by
  obtain ⟨⟨Ri, ⟨Cs, hr⟩, vl, vr, vw, hp, hm⟩, hrow, hsz⟩ := h
  have hl : (cutN P.l (L.take i)).length ≤ 64 := Nat.le_trans (cutN_len _ _) h64
  have hR : Ri.length ≤ 64 := by rw [hr.len]; exact Nat.le_trans (show resting (cutN P.l (L.take i)) ≤ (cutN P.l (L.take i)).length from List.length_filter_le _ _) hl
  refine (gcut_any hp hR hl (L[i].conn)).mono ?_
  rintro e w' ⟨rfl, hG⟩
  have e1 : cutN P.l (L.take (i + 1)) = others (cutN P.l (L.take i)) L[i].conn := by rw [List.take_succ_eq_append_getElem hi, cutN_snoc]
  refine ⟨rfl, ⟨rmv Ri L[i].conn, ?_, ?_⟩, GP.row27 hp hG hrow, Nat.le_trans hsz hG.size⟩
  · rw [e1]; exact ⟨_, hr.cut _⟩
  · rw [e1]; exact GP.then_ hm hG
theorem ECut.only0 {wr w' : World} {v : Value} {L : List Ac} {i : Nat} (h : ECut F w0 w wr lo p P v L i) (ho : Only (fun _ => False) wr w') : ECut F w0 w w' lo p P v L i := by
  obtain ⟨⟨Ri, hr, hg⟩, h2, h3⟩ := h
  exact ⟨⟨Ri, hr, hg.only0 ho⟩, owns_only h2 ho (fun _ _ h => h), Nat.le_trans h3 ho.size⟩
set_option maxRecDepth 100000 in
set_option maxHeartbeats 1600000 in
theorem gexpire_ok (h : GQ F w0 w lo p P) {k : Nat} (hk : Okp P k) (hk9 : k < 9223372036854775807) (nn : Nat) (hnn : nn ≤ 4611686018427387904) :
    Calls Try.prog 43 #[ptr p, .int .i64 nn] w fun e w' => ∃ v, e = .returned (.tuple #[v, .int .i64 0]) ∧ GAcP F w0 w w' lo p (serve (expireL P nn) nn).1 v (closes P nn ++ (serve (expireL P nn) nn).2) := by
  obtain ⟨i82, hi82, hz0, hz1, hz2⟩ := info_parts Try.info82
  have z82 := zero82
  have z97 := zero97
  have HM := Lib.hid (fun w => rmoment_ok nn w (by omega) (by omega))
  have hsz0 := h.size
  obtain ⟨R, ⟨Cs, hr⟩, vl, vr, vw, hp, hmv⟩ := h
  obtain ⟨k', hkk⟩ : ∃ k', k' = P.l.length := ⟨_, rfl⟩
  have hk64 : k' ≤ 64 := by rw [hkk]; exact hk.l64
  obtain ⟨ao, cap, rfl, h1, h2, _, _⟩ := ownsRow_slice hp.row
  have hcm : cap ≤ 9223372036854775807 := by unfold maxLen at h2; omega
  have d5 := hp.blk.cell 5 _ rfl
  have hpl := hp.blk.lt
  rw [← hkk] at h1 d5
  have H := Lib.hid hp
  have HV := Lib.hid hmv
  have HK := Lib.hid hk
  have HKK := Lib.hid hkk
  have HR := Lib.hid hr
  clear hp hmv hk hkk h2 hr
  go_enter Try.func43, Try.ntmps43
  go_upto_region 5 with (go_at_call 16; (refine (HM.out _).mono ?_); rintro e w' ⟨rfl, rfl⟩)
  clear d5 hpl
  go_loopw [6, 8, 19] (fun o _ i wr => ∃ j : Nat, j ≤ k' ∧ i = .int .i64 j ∧ wr.ownsRow w.heap.size 82 3 o (exC P nn j).length (acCells (exC P nn j)) ∧ Only (fun _ => False) w wr) (fun _ _ i _ => k' - (intOf i).toNat)
  case atStart => exact ⟨0, Nat.zero_le _, rfl, World.ownsRow_nil _ _ _ _, Only.refl _ _⟩
  case round =>
    obtain ⟨j, hj, rfl, hrow, hO⟩ := hrel
    obtain ⟨L, hL⟩ : ∃ L, L = exC P nn j := ⟨_, rfl⟩
    rw [← hL] at hrow
    have hll : L.length ≤ 64 := by rw [hL]; have := exC_len (P := P) (now := nn) (j := j); have := HKK.out; omega
    obtain ⟨ax, cx, rfl, hx1, hx2, _, _⟩ := ownsRow_slice hrow
    have HROW := Lib.hid hrow
    have HL := Lib.hid hL
    have HO := Lib.hid hO
    clear hrow hL
    by_cases hlt : j < k'
    · have hjl : j < P.l.length := by rw [← HKK.out]; exact hlt
      have h2 := H.out.only0 hO
      obtain ⟨g, cap', e, _, _, hgl, c0, c1, c2, c3, c4, _⟩ := h2.at_ hjl
      injection e with e1 _ e3
      subst e1 e3
      have hsu := exC_at (P := P) hjl nn
      have ht := HK.out.t _ (cnAt_mem hjl)
      have hend : ∀ w', Only (fun _ => False) w w' → Calls Try.prog 45 #[ptr p, gcV (cnAt P.l j)] w' fun e w'' => e = .returned (.int .i64 (endC P (cnAt P.l j))) ∧ Only (fun _ => False) w' w'' := fun w' ho => gend_any (H.out.only0 ho) HK.out.n _ ht.1 ht.2.1
      obtain ⟨c, hc⟩ : ∃ c, c = cnAt P.l j := ⟨_, rfl⟩
      rw [← hc] at c0 c1 c2 c3 c4 hsu hend
      rw [← HL.out] at hsu
      have hstale : stale P nn c = (decide (c.st = 2) && decide (endC P c ≤ nn)) := rfl
      obtain ⟨en, hen⟩ : ∃ en, en = endC P c := ⟨_, rfl⟩
      rw [← hen] at hend hstale
      rw [hstale] at hsu
      obtain ⟨num, st, who, sn, bo, nth⟩ := c
      simp only at c0 c1 c2 c3 c4 hsu
      have HSU := Lib.hid hsu
      have HEN := Lib.hid hend
      clear hc hO hsu ht hend hstale hen h2
      go_upto_region 7 with fail
      have ho4 : Only (fun _ => False) wr (wr.alloc (Obj.cells #[.int .i64 num, .int .i64 ((st : Int) + 1), .int .i64 who, .int .i64 sn, .int .i64 bo] 97)) := (Only.refl (fun _ => False) wr).alloc _
      have HO4 := Lib.hid (HO.out.trans ho4 (fun _ _ h => h))
      have HROW4 := Lib.hid (owns_only HROW.out ho4 (fun _ _ h => h))
      have hb4 : Blk (wr.alloc (Obj.cells #[.int .i64 num, .int .i64 ((st : Int) + 1), .int .i64 who, .int .i64 sn, .int .i64 bo] 97)) wr.heap.size [.int .i64 num, .int .i64 ((st : Int) + 1), .int .i64 who, .int .i64 sn, .int .i64 bo] 97 := Blk.new wr [.int .i64 num, .int .i64 ((st : Int) + 1), .int .i64 who, .int .i64 sn, .int .i64 bo] 97
      obtain ⟨q, hq⟩ : ∃ q, q = wr.heap.size := ⟨_, rfl⟩
      rw [← hq] at hb4 ⊢
      clear hq c0 c1 c2 c3 c4 ho4
      generalize wr.alloc (Obj.cells #[.int .i64 num, .int .i64 ((st : Int) + 1), .int .i64 who, .int .i64 sn, .int .i64 bo] 97) = w4 at hb4 HO4 HROW4 ⊢
      have k0 := hb4.cell 0 _ rfl
      have k1 := hb4.cell 1 _ rfl
      have k2 := hb4.cell 2 _ rfl
      have k3 := hb4.cell 3 _ rfl
      have k4 := hb4.cell 4 _ rfl
      have hql := hb4.lt
      have HB4 := Lib.hid hb4
      clear hb4
      by_cases hs : st = 2
      · subst hs
        rw [show (((2 : Nat) : Int) + 1) = 3 from rfl] at k1
        have HEN2 := Lib.hid (show Calls Try.prog 45 #[ptr p, .agg #[.int .i64 num, .int .i64 3, .int .i64 who, .int .i64 sn, .int .i64 bo]] w4 (fun e w'' => e = .returned (.int .i64 en) ∧ Only (fun _ => False) w4 w'') from HEN.out w4 HO4.out)
        by_cases he : en ≤ nn
        · have f2 : decide ((en : Int) ≤ (nn : Int)) = true := decide_eq_true (by omega)
          have f2n : decide (en ≤ nn) = true := decide_eq_true he
          have HS := Lib.hid (show exC P nn (j + 1) = L ++ [⟨5, num, -1⟩] by rw [HSU.out, f2n]; simp)
          go_upto_region 8 with (go_at_call 45; (refine HEN2.out.mono ?_); rintro e w5 ⟨rfl, hO5⟩; have HO5 := Lib.hid (HO4.out.trans hO5 (fun _ _ h => h)); have HROW5 := Lib.hid (owns_only HROW4.out hO5 (fun _ _ h => h)); have hb5 := HB4.out.only hO5 (fun h => h); have k05 := hb5.cell 0 _ rfl; have hql5 := hb5.lt; clear hO5 hb5)
          have hsz := HO5.out.size
          clear k0 k1 k2 k3 k4 hql
          go_upto_region 9 with (at_builtin; refine wpList_append_row rfl (.tmp 33) (.tmp 37) 86 rfl w.heap.size 82 i82 _ 3 24 Try.underlying86 hi82 hz0 hz1 hz2 rfl (by decide) (.slice ax L.length cx) L.length (acCells L) rfl (HROW5.out.alloc _) (some ⟨w5.heap.size, 0, none⟩) 1 1 (acC ⟨5, num, -1⟩) rfl rfl (fun _ => ⟨_, rfl, cells_new _ _ _⟩) (fun e => by cases e) (fun u hu => ac_one [⟨5, num, -1⟩] u (by simpa [acCells] using hu)) (by unfold maxLen; omega) (by omega) (by simp only [World.size_alloc]; omega) ?_; intro v9 w9 hown9 hon9 hat9 _; obtain ⟨a9, k9, rfl, _, _, _, _⟩ := ownsRow_slice hown9; have HO9 := Lib.hid hown9; have HN9 := Lib.hid (show Only (fun _ => False) w w9 from (HO5.out.trans ((Only.refl (fun _ => False) w5).alloc (Obj.cells #[.int .i64 5, .int .i64 num, .int .i64 (-1)] 82)) (fun _ _ h => h)).trans hon9 (fun k hk e => by have := (ownsRow_lt HROW5.out k e).1; omega)); clear hown9 hon9 hat9)
          go_wp2_with fail
          go_roundw
          case rel => exact ⟨j + 1, by omega, by go_num, by rw [HS.out, List.length_append, List.length_singleton, acCells_append]; simpa [acCells] using HO9.out, HN9.out⟩
          case measure => simp [intOf]; omega
        · have f2 : decide ((en : Int) ≤ (nn : Int)) = false := decide_eq_false (by omega)
          have f2n : decide (en ≤ nn) = false := decide_eq_false he
          have HS := Lib.hid (show exC P nn (j + 1) = L by rw [HSU.out, f2n]; simp)
          go_wp2_with (go_at_call 45; (refine HEN2.out.mono ?_); rintro e w5 ⟨rfl, hO5⟩; have HO5 := Lib.hid (HO4.out.trans hO5 (fun _ _ h => h)); have HROW5 := Lib.hid (owns_only HROW4.out hO5 (fun _ _ h => h)); clear hO5)
          go_roundw
          case rel => exact ⟨j + 1, by omega, by go_num, by rw [HS.out]; exact HROW5.out, HO5.out⟩
          case measure => simp [intOf]; omega
      · have hs1 : decide (st = 2) = false := decide_eq_false hs
        have f1 : (((st : Int) + 1) == 3) = false := beq_eq_false_iff_ne.2 (by omega)
        have HS := Lib.hid (show exC P nn (j + 1) = L by rw [HSU.out, hs1]; simp)
        generalize (st : Int) + 1 = s1 at k1 f1 HB4
        clear hs hs1
        go_wp2
        go_roundw
        case rel => exact ⟨j + 1, by omega, by go_num, by rw [HS.out]; exact HROW4.out, HO4.out⟩
        case measure => simp [intOf]; omega
    · have hjn : j = k' := by omega
      have hLf : L = closes P nn := by rw [HL.out, hjn, HKK.out, exC_all]
      have HLF := Lib.hid hLf
      obtain ⟨m, hm⟩ : ∃ m, m = L.length := ⟨_, rfl⟩
      rw [← hm] at hll hx1 ⊢
      have HMM := Lib.hid hm
      clear hLf hm hO hjn
      go_upto_region 11 with fail
      have HE0 := Lib.hid (show ECut F w0 w wr lo p P (.slice ax m cx) L 0 from ⟨⟨R, ⟨_, HR.out⟩, _, _, _, H.out.only0 HO.out, HV.out.trans (Mv.of_only HO.out)⟩, by rw [HMM.out]; exact HROW.out, HO.out.size⟩)
      go_loopw [42] (fun i wr2 => ∃ i2 : Nat, i2 ≤ m ∧ i = .int .i64 i2 ∧ ECut F w0 w wr2 lo p P (.slice ax m cx) L i2) (fun i _ => m - (intOf i).toNat)
      case atStart => exact ⟨0, Nat.zero_le _, rfl, HE0.out⟩
      case round =>
        obtain ⟨i2, hi2, rfl, hE⟩ := hrel
        have HE := Lib.hid hE
        by_cases hlt2 : i2 < m
        · have hil : i2 < L.length := by rw [← HMM.out]; exact hlt2
          obtain ⟨g, rfl, hgl, c0, c1, c2⟩ := acRowG_at (n := L.length) (ao := ax) (cap := cx) rfl hE.row (by rw [HMM.out]) hil
          have HST := Lib.hid (fun (w' : World) (ho : Only (fun _ => False) _ w') => (hE.only0 ho).step hil (by have := HKK.out; omega))
          generalize L[i2].kind = yk at c0
          generalize L[i2].conn = yc at c1 HST
          generalize L[i2].who = yw at c2
          clear hE hil
          go_upto_region 13 with fail
          have ho7 : Only (fun _ => False) wr (wr.alloc (Obj.cells #[.int .i64 yk, .int .i64 yc, .int .i64 yw] 82)) := (Only.refl (fun _ => False) wr).alloc _
          have hb7 : Blk (wr.alloc (Obj.cells #[.int .i64 yk, .int .i64 yc, .int .i64 yw] 82)) wr.heap.size [.int .i64 yk, .int .i64 yc, .int .i64 yw] 82 := Blk.new wr [.int .i64 yk, .int .i64 yc, .int .i64 yw] 82
          have HST7 := Lib.hid (HST.out _ ho7)
          obtain ⟨q7, hq7⟩ : ∃ q7, q7 = wr.heap.size := ⟨_, rfl⟩
          rw [← hq7] at hb7 ⊢
          clear hq7 c0 c1 c2 ho7
          generalize wr.alloc (Obj.cells #[.int .i64 yk, .int .i64 yc, .int .i64 yw] 82) = w7 at hb7 HST7 ⊢
          have k1 := hb7.cell 1 _ rfl
          have hql := hb7.lt
          clear hb7
          go_wp2_with (go_at_call 59; (refine HST7.out.mono ?_); rintro e w8 ⟨rfl, hE8⟩; have HE8 := Lib.hid hE8; clear hE8)
          go_roundw
          case rel => exact ⟨i2 + 1, by omega, by go_num, HE8.out⟩
          case measure => simp [intOf]; omega
        · have him : i2 = L.length := by have := HMM.out; omega
          have hfin : ∃ Ri, Rel (expireL P nn) Ri ∧ GP F w0 wr lo p (expireL P nn) Ri := by
            obtain ⟨Ri, h1, h2⟩ := hE.pp
            rw [him, List.take_length, HLF.out, HR.out.expired] at h1 h2
            exact ⟨Ri, h1, h2⟩
          obtain ⟨Ri, hri, hgi⟩ := hfin
          have HRI := Lib.hid hri
          have HGI := Lib.hid hgi
          have hexp := expL_ok (now := nn) HK.out
          have HK2 := Lib.hid hexp
          have hsl : (serve (expireL P nn) nn).2.length ≤ 64 := by have := serve_len hnn hexp; have h2 : (expireL P nn).waits = P.waits := rfl; rw [h2] at this; have := HK.out.w64; omega
          have HROW8 := Lib.hid (show wr.ownsRow w.heap.size 82 3 (.slice ax m cx) m (acCells L) by have := hE.row; rwa [← HMM.out] at this)
          have hszr := hE.sz
          clear hri hgi hexp hE him
          go_wp2_with (first
            | (go_at_call 60; (refine (gserve_keep HGI.out HRI.out HK2.out hk9 nn hnn HROW8.out).mono ?_); rintro e w6 ⟨v6, rfl, hs⟩; have HS := Lib.hid hs; obtain ⟨a6, k6, rfl, _, _, hn6, _⟩ := ownsRow_slice hs.row; have hsz6 := hs.sz; clear hs)
            | (at_builtin; refine wpList_append_row rfl (.tmp 51) (.tmp 54) 86 rfl w.heap.size 82 i82 _ 3 24 Try.underlying86 hi82 hz0 hz1 hz2 rfl (by decide) (.slice ax m cx) m (acCells L) rfl HS.out.old a6 (serve (expireL P nn) nn).2.length k6 (acCells (serve (expireL P nn) nn).2) rfl (acCells_len _) (row_news HS.out.row rfl) hn6 (ac_one _) (by unfold maxLen; omega) (by omega) (by omega) ?_; intro v9 w9 hown9 hon9 _ _; have HO9 := Lib.hid (KeepP.app (o1 := L) HMM.out HS.out hsz0 hown9 hon9); clear hown9 hon9))
          go_ret2
          exact ⟨_, rfl, HO9.out.1, by rw [← HLF.out]; exact HO9.out.2⟩
theorem gexpire_any (h : GQ F w0 w lo p P) {k : Nat} (hk : Okp P k) (hk9 : k < 9223372036854775807) (now : Int) :
    Calls Try.prog 43 #[ptr p, .int .i64 now] w fun e w' => ∃ v, e = .returned (.tuple #[v, .int .i64 (expire P now).2.2]) ∧ GAcP F w0 w w' lo p (expire P now).1 v (expire P now).2.1 := by
  unfold expire
  by_cases hm : isMoment now
  · rw [if_neg (fun e => e hm)]
    obtain ⟨nn, rfl⟩ : ∃ nn : Nat, now = nn := ⟨now.toNat, by have := hm.1; omega⟩
    exact gexpire_ok h hk hk9 nn (by have := hm.2; omega)
  · rw [if_pos hm]
    have HM := Lib.hid (fun w => rmoment_bad now w (by unfold isMoment at hm; omega))
    have H := Lib.hid h
    clear h hk hm
    go_enter Try.func43, Try.ntmps43
    go_wp2_with (go_at_call 16; (refine (HM.out _).mono ?_); rintro e w' ⟨rfl, rfl⟩)
    go_ret2
    exact ⟨_, rfl, GAcP.none H.out⟩
set_option maxRecDepth 100000 in
set_option maxHeartbeats 1600000 in
theorem gsoon_any (h : GQ F w0 w lo p P) {k : Nat} (hk : Okp P k) {r : Nat} {f : Bool} (hf : FirstR (nextL P P.l) r f) :
    Calls Try.prog 21 #[ptr p] w fun e w' => e = .returned (.tuple #[.int .i64 r, .bool f]) ∧ Only (fun _ => False) w w' := by
  obtain ⟨i3, hi3, hz0, hz1, hz2⟩ := info_parts Try.info3
  have z97 := zero97
  obtain ⟨R, hr, vl, vr, vw, hp, hmv⟩ := h
  obtain ⟨k', hkk⟩ : ∃ k', k' = P.l.length := ⟨_, rfl⟩
  have hk64 : k' ≤ 64 := by rw [hkk]; exact hk.l64
  obtain ⟨ao, cap, rfl, h1, h2, _, _⟩ := ownsRow_slice hp.row
  have hcm : cap ≤ 9223372036854775807 := by unfold maxLen at h2; omega
  have d5 := hp.blk.cell 5 _ rfl
  have hpl := hp.blk.lt
  rw [← hkk] at h1 d5
  have H := Lib.hid hp
  have HK := Lib.hid hk
  have HKK := Lib.hid hkk
  have HF := Lib.hid hf
  clear hp hmv hk hkk h2 hr hf
  go_enter Try.func21, Try.ntmps21
  go_upto_region 3 with fail
  clear d5 hpl
  go_loopw [4, 6, 12] (fun o _ i wr => ∃ j : Nat, j ≤ k' ∧ i = .int .i64 j ∧ Acc w wr o (nextL P (P.l.take j))) (fun _ _ i _ => k' - (intOf i).toNat)
  case atStart => exact ⟨0, Nat.zero_le _, rfl, World.ownsRow_nil _ _ _ _, Only.refl _ _⟩
  case round =>
    obtain ⟨j, hj, rfl, hA⟩ := hrel
    obtain ⟨L, hL⟩ : ∃ L, L = nextL P (P.l.take j) := ⟨_, rfl⟩
    rw [← hL] at hA
    have hll : L.length ≤ 64 := by rw [hL]; exact Nat.le_trans (nextL_len _ _) (by rw [List.length_take]; omega)
    obtain ⟨ax, cx, rfl, hx1, hx2, _, _⟩ := ownsRow_slice hA.row
    have HL := Lib.hid hL
    have HA := Lib.hid hA
    clear hL
    by_cases hlt : j < k'
    · have hjl : j < P.l.length := by rw [← HKK.out]; exact hlt
      have h2 := H.out.only0 hA.only
      obtain ⟨g, cap', e, _, _, hgl, c0, c1, c2, c3, c4, _⟩ := h2.at_ hjl
      injection e with e1 _ e3
      subst e1 e3
      have hsu := nextL_succ (P := P) hjl
      have ht := HK.out.t _ (cnAt_mem hjl)
      have hend : ∀ w', Only (fun _ => False) w w' → Calls Try.prog 45 #[ptr p, gcV (cnAt P.l j)] w' fun e w'' => e = .returned (.int .i64 (endC P (cnAt P.l j))) ∧ Only (fun _ => False) w' w'' := fun w' ho => gend_any (H.out.only0 ho) HK.out.n _ ht.1 ht.2.1
      obtain ⟨c, hc⟩ : ∃ c, c = cnAt P.l j := ⟨_, rfl⟩
      rw [← hc] at c0 c1 c2 c3 c4 hsu hend
      rw [← HL.out] at hsu
      obtain ⟨en, hen⟩ : ∃ en, en = endC P c := ⟨_, rfl⟩
      rw [← hen] at hend hsu
      obtain ⟨num, st, who, sn, bo, nth⟩ := c
      simp only at c0 c1 c2 c3 c4 hsu
      have HSU := Lib.hid hsu
      have HEN := Lib.hid hend
      clear hc hA hsu ht hend hen h2
      go_upto_region 5 with fail
      have ho4 : Only (fun _ => False) wr (wr.alloc (Obj.cells #[.int .i64 num, .int .i64 ((st : Int) + 1), .int .i64 who, .int .i64 sn, .int .i64 bo] 97)) := (Only.refl (fun _ => False) wr).alloc _
      have HA4 := Lib.hid (HA.out.trans ho4)
      have hb4 : Blk (wr.alloc (Obj.cells #[.int .i64 num, .int .i64 ((st : Int) + 1), .int .i64 who, .int .i64 sn, .int .i64 bo] 97)) wr.heap.size [.int .i64 num, .int .i64 ((st : Int) + 1), .int .i64 who, .int .i64 sn, .int .i64 bo] 97 := Blk.new wr [.int .i64 num, .int .i64 ((st : Int) + 1), .int .i64 who, .int .i64 sn, .int .i64 bo] 97
      obtain ⟨q, hq⟩ : ∃ q, q = wr.heap.size := ⟨_, rfl⟩
      rw [← hq] at hb4 ⊢
      clear hq c0 c1 c2 c3 c4 ho4
      generalize wr.alloc (Obj.cells #[.int .i64 num, .int .i64 ((st : Int) + 1), .int .i64 who, .int .i64 sn, .int .i64 bo] 97) = w4 at hb4 HA4 ⊢
      have k0 := hb4.cell 0 _ rfl
      have k1 := hb4.cell 1 _ rfl
      have k2 := hb4.cell 2 _ rfl
      have k3 := hb4.cell 3 _ rfl
      have k4 := hb4.cell 4 _ rfl
      have hql := hb4.lt
      clear hb4
      by_cases hs : st = 2
      · have HS2 := Lib.hid (show nextL P (P.l.take (j + 1)) = L ++ [en] by rw [HSU.out, if_pos hs])
        subst hs
        rw [show (((2 : Nat) : Int) + 1) = 3 from rfl] at k1
        have HEN2 := Lib.hid (show Calls Try.prog 45 #[ptr p, .agg #[.int .i64 num, .int .i64 3, .int .i64 who, .int .i64 sn, .int .i64 bo]] w4 (fun e w'' => e = .returned (.int .i64 en) ∧ Only (fun _ => False) w4 w'') from HEN.out w4 HA4.out.only)
        have hsz := HA4.out.only.size
        go_upto_region 7 with (first
          | (go_at_call 45; (refine HEN2.out.mono ?_); rintro e w5 ⟨rfl, hO5⟩; have HA5 := Lib.hid (HA4.out.trans hO5); have hsz5 := hO5.size; clear hO5)
          | (at_builtin; refine wpList_append_row rfl (.tmp 19) (.tmp 23) 51 rfl w.heap.size 3 i3 (.int .i64 0) 1 8 Try.underlying51 hi3 hz0 hz1 hz2 rfl (by decide) (.slice ax L.length cx) L.length (ints (nints L)) rfl (HA5.out.row.alloc _) (some ⟨w5.heap.size, 0, none⟩) 1 1 [.int .i64 en] rfl rfl (fun _ => ⟨_, rfl, new_one _ _ _⟩) (fun e => by cases e) (one_int _ _) (by unfold maxLen; omega) (by omega) (by simp only [World.size_alloc]; omega) ?_; intro v9 w9 hown9 hon9 hat9 _; obtain ⟨a9, k9, rfl, _, _, _, _⟩ := ownsRow_slice hown9; have HO9 := Lib.hid hown9; have HN9 := Lib.hid hon9; clear hown9 hon9 hat9))
        go_wp2_with fail
        go_roundw
        case rel => exact ⟨j + 1, by omega, by go_num, by rw [HS2.out]; exact (HA5.out.trans ((Only.refl (fun _ => False) w5).alloc (Obj.cells #[.int .i64 en] 3))).app HO9.out HN9.out⟩
        case measure => simp [intOf]; omega
      · have HS2 := Lib.hid (show nextL P (P.l.take (j + 1)) = L by rw [HSU.out, if_neg hs, List.append_nil])
        have f1 : (((st : Int) + 1) == 3) = false := beq_eq_false_iff_ne.2 (by omega)
        generalize (st : Int) + 1 = s1 at k1 f1
        clear hs
        go_wp2_with fail
        go_roundw
        case rel => exact ⟨j + 1, by omega, by go_num, by rw [HS2.out]; exact HA4.out⟩
        case measure => simp [intOf]; omega
    · have hjn : j = k' := by omega
      have hLf : L = nextL P P.l := by rw [HL.out, hjn, HKK.out, List.take_length]
      have HFF := Lib.hid (rfirst_r HA.out.irow (by rw [hLf]; exact HF.out) (by rw [hLf]; exact nextL_le _ _) (by omega))
      clear hLf hA hjn
      go_wp2_with (go_at_call 46; (refine HFF.out.mono ?_); rintro e w3 ⟨rfl, rfl⟩)
      go_ret2
      exact ⟨rfl, HA.out.only⟩
end
end Go.Proofs.Ytmpcffkandmacaa
