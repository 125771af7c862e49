/- Head. -/
import Derived.Test.YtlcblfkmadjppaaWalks9
namespace Go.Proofs.Ytlcblfkmadjppaa
open Go.RowKit
set_option linter.unusedVariables false
set_option linter.unusedSimpArgs false

/-- What Head tells. -/
def headI (r : Rq) (now id status : Int) (allow : Bool) : Rq × List Ac × Int :=
  if ¬ isMoment now then (r, [], 1)
  else if hasR r id = false then (r, [], 6)
  else if status < 200 ∨ 599 < status then (r, [], 1)
  else ((headR r now.toNat id status allow).1, (headR r now.toNat id status allow).2, 0)

theorem cancels_take (l : List Run) (id : Int) (j : Nat) (hj : j < l.length) : cancels (keep (l.take (j + 1)) id) = cancels (keep (l.take j) id) ++ if ((runAt l j).id : Int) = id then [] else [⟨2, (runAt l j).id, 0⟩] := by
  rw [keep_take l id j hj]
  unfold cancels
  rw [List.map_append]
  split <;> rfl
theorem cancels_len (l : List Run) : (cancels l).length = l.length := by simp [cancels]

section
variable {F : Nat → Prop} {w : World} {lo p : Nat} {r : Rq} {o : List Ac}

theorem Rw.over_ {vr vo : Value} (h : Rw w lo p r vr o vo) :
    Rw ((w.setCell ⟨p, 12, none⟩ (.bool true)).setCell ⟨p, 11, none⟩ (.slice none 0 0)) lo p { r with over := true, runs := [] } (.slice none 0 0) o vo ∧
      Mv (foot p vr vo) (foot p (.slice none 0 0) vo) w ((w.setCell ⟨p, 12, none⟩ (.bool true)).setCell ⟨p, 11, none⟩ (.slice none 0 0)) := by
  have h1 := h.setF (i := 12) (u := .bool true) (r' := { r with over := true }) (by rfl) rfl
  have h2 := h1.1.setRuns (v := .slice none 0 0) (r' := { r with over := true, runs := [] }) (by rfl) (World.ownsRow_nil _ _ _ _) (by intro e; cases e)
  refine ⟨h2, ((only_p w p 12 _).mono (fun k _ e => .inl e)).trans (only_p _ p 11 _) (fun k _ e => .inl e), fun k hk => ?_⟩
  rcases hk with hk | hk | hk
  · exact .inl (.inl hk)
  · cases hk
  · exact .inl (.inr (.inr hk))
/-- Where the runs lie, read in whatever world. -/
theorem Rw.runsAt {vr vo : Value} (h : Rw w lo p r vr o vo) {ar : Option Addr} {k cr : Nat} (hv : vr = .slice ar k cr) {i : Nat} (hi : i < r.runs.length) :
    ∃ g, ar = some ⟨g, 0, none⟩ ∧ g < w.heap.size ∧ w.cell? ⟨g, i * 2, none⟩ = some (.int .i64 (runAt r.runs i).id) ∧ w.cell? ⟨g, i * 2 + 1, none⟩ = some (.int .i64 (runAt r.runs i).since) := by
  obtain ⟨g, cap, C, e, _, _, _, _, hr, _⟩ := own_runs h.runs (by omega)
  rw [hv] at e
  injection e with e1 _ _
  obtain ⟨c1, c2⟩ := hr.at_ i hi
  exact ⟨g, e1, hr.lt (by omega), c1, c2⟩

set_option maxRecDepth 100000 in
set_option maxHeartbeats 6400000 in
theorem head_win (h : RQ F w lo p r []) (hok : Okq r) (n : Nat) (hn : n ≤ 4611686018427387904) (id status : Int) (allow : Bool) (hh : hasR r id = true) (hs : 200 ≤ status ∧ status ≤ 599)
    (hb : (badS status && (mayR r 5 allow || decide (1 < r.runs.length))) = false) :
    Calls Try.prog 24 #[.pointer (some ⟨p, 0, none⟩), .int .i64 n, .int .i64 id, .int .i64 status, .bool allow] w fun e w' =>
      ∃ v, e = .returned (.tuple #[v, .int .i64 0]) ∧ Told F w w' lo p { r with over := true, runs := [] } v (cancels (keep r.runs id) ++ [⟨3, id, 0⟩]) := by
  have hcase : status < 502 ∨ (502 ≤ status ∧ 504 < status) ∨ (502 ≤ status ∧ status ≤ 504 ∧ Hid (mayR r 5 allow = false) ∧ r.runs.length ≤ 1) := by
    by_cases h1 : status < 502
    · exact .inl h1
    · by_cases h2 : 504 < status
      · exact .inr (.inl ⟨by omega, h2⟩)
      · right; right
        have hbs : badS status = true := by unfold badS; rw [decide_eq_true (by omega), decide_eq_true (by omega)]; rfl
        rw [hbs, Bool.true_and, Bool.or_eq_false_iff] at hb
        exact ⟨by omega, by omega, hb.1, by have := of_decide_eq_false hb.2; omega⟩
  have hl9 := hok.len9
  obtain ⟨hs1, hs2⟩ := hs
  have H := Lib.hid h
  have HOK := Lib.hid hok
  have HH := Lib.hid hh
  clear h hok hh hb
  have z64 := zero64
  rcases hcase with hc1 | ⟨hc1, hc2⟩ | ⟨hc1, hc2, hmay, hlen⟩
  all_goals
    go_enter Try.func24, Try.ntmps24
    go_upto_region 7 with (first
      | (go_at_call 27; (with_reducible refine (moment_ok n _ hn).mono ?_); rintro e w' ⟨rfl, rfl⟩)
      | (go_at_call 47; (with_reducible refine (find_any H.out id).mono ?_); rintro e w1 ⟨k, rfl, hk, hO⟩; have HO := Lib.hid hO; clear hO; have hk1 := findP_yes hk HH.out; clear hk; have f3 : decide (k < 0) = false := decide_eq_false (by omega)))
    have H1 := Lib.hid (H.out.only HO.out (fun _ _ h => h))
    obtain ⟨hpl, xo, xc, c11, hxc1, hxc2⟩ := rq_runs H1.out rfl
    generalize hkk : r.runs.length = kk at c11 hxc1 hl9
    try rw [hkk] at hlen
    have HKK := Lib.hid hkk
    clear hkk
    go_upto_region 15 with (go_at_call 48; (with_reducible refine (again_any H1.out HOK.out.w 5 allow).mono ?_); rintro e w2 ⟨rfl, hD⟩; rw [hmay.out]; have HD := Lib.hid (hD.only (fun _ => False)); clear hD; obtain ⟨_, yo, yc, c12, hyc1, hyc2⟩ := rq_runs (H1.out.only HD.out (fun _ _ h => h)) HKK.out; have hpl2 := (RQ.lt (H1.out.only HD.out (fun _ _ h => h)) p (RQ.at_p H1.out)).2; clear c11)
    first
      | (have HRX := Lib.hid (H1.out.only HD.out (fun _ _ h => h)); have HMX := Lib.hid (Mv.of_only (F := F) (HO.out.trans HD.out (fun _ _ h => h))))
      | (have HRX := H1; have HMX := Lib.hid (Mv.of_only (F := F) HO.out))
    obtain ⟨vr, vo, hR, rfl⟩ := HRX.out
    obtain ⟨ar, cr, rfl, hcr1, hcr2, _, _⟩ := ownsRow_slice hR.runs
    have hcr3 : cr ≤ 9223372036854775807 := by unfold maxLen at hcr2; omega
    rw [HKK.out] at hR hcr1 HMX
    have d11 := hR.blk.cell 11 _ rfl
    have hpl3 := hR.blk.lt
    have HR := Lib.hid hR
    clear hR hcr2 H1 HRX
    try clear c11
    try clear c12
    go_upto_region 16 with fail
    go_loopw [14, 79] (fun _ i wr => ∃ (j : Nat) (vo' : Value), j ≤ kk ∧ i = .int .i64 j ∧ Rw wr lo p r (.slice ar kk cr) (cancels (keep (r.runs.take j) id)) vo' ∧ Mv (foot p (.slice ar kk cr) vo) (foot p (.slice ar kk cr) vo') w wr) (fun _ i _ => kk - (intOf i).toNat)
    case atStart => exact ⟨0, vo, Nat.zero_le _, rfl, HR.out, HMX.out⟩
    case round =>
      obtain ⟨j, vo', hj, rfl, hRj, hMj⟩ := hrel
      have HRJ := Lib.hid hRj
      have HMJ := Lib.hid hMj
      clear hRj hMj
      by_cases hlt : j < kk
      · have hjr : j < r.runs.length := by rw [HKK.out]; exact hlt
        obtain ⟨g, rfl, hgl, e0, e1⟩ := HRJ.out.runsAt rfl hjr
        obtain ⟨x, hx⟩ : ∃ x, x = runAt r.runs j := ⟨_, rfl⟩
        rw [← hx] at e0 e1
        have HX := Lib.hid hx
        have hct := cancels_take r.runs id j hjr
        rw [← hx] at hct
        have hcl : (cancels (keep (r.runs.take j) id)).length ≤ 20 := by rw [cancels_len]; have := keep_len (r.runs.take j) id; rw [List.length_take] at this; omega
        have hxi : x.id < 1000000 := by
          have := HOK.out.lt x (by rw [hx, runAt_eq hjr]; exact List.getElem_mem hjr)
          have := HOK.out.made9
          omega
        have HCL := Lib.hid hcl
        clear hx hjr hcl
        have ho4 : Only (fun _ => False) wr (wr.alloc (Obj.cells #[.int .i64 x.id, .int .i64 x.since] 64)) := (Only.refl _ _).alloc _
        have hb4 : Blk (wr.alloc (Obj.cells #[.int .i64 x.id, .int .i64 x.since] 64)) wr.heap.size [.int .i64 x.id, .int .i64 x.since] 64 := Blk.new wr [.int .i64 x.id, .int .i64 x.since] 64
        go_upto_region 18 with fail
        obtain ⟨q, hq⟩ : ∃ q, q = wr.heap.size := ⟨_, rfl⟩
        rw [← hq] at hb4 ⊢
        clear hq
        generalize wr.alloc (Obj.cells #[.int .i64 x.id, .int .i64 x.since] 64) = w4 at ho4 hb4 ⊢
        have b0 := hb4.cell 0 _ rfl
        have hql := hb4.lt
        have HR4 := Lib.hid (HRJ.out.only ho4 (fun _ _ h => h))
        have HO4 := Lib.hid ho4
        clear ho4 hb4 e0 e1 z64
        by_cases he : (x.id : Int) = id
        · have fe : ((x.id : Int) == id) = true := beq_iff_eq.2 he
          have fe2 : ((x.id : Int) != id) = false := by simp [he]
          rw [if_pos he, List.append_nil] at hct
          have HCT := Lib.hid hct
          clear hct he
          go_wp2_with fail
          go_roundw
          case rel => exact ⟨j + 1, vo', by omega, by go_num, by rw [HCT.out]; exact HR4.out, HMJ.out.trans (Mv.of_only HO4.out)⟩
          case measure => simp [intOf]; omega
        · have fe : ((x.id : Int) == id) = false := beq_eq_false_iff_ne.2 he
          have fe2 : ((x.id : Int) != id) = true := by simp [he]
          rw [if_neg he] at hct
          have HCT := Lib.hid hct
          clear hct he
          go_wp2_with (go_at_call 44; (with_reducible refine (say_one_rw HR4.out 2 x.id 0 (Nat.le_trans HCL.out (by decide))).mono ?_); rintro e w5 ⟨rfl, hP⟩; have HP := Lib.hid hP; clear hP)
          obtain ⟨vo5, hR5, hM5⟩ := HP.out
          have HR5 := Lib.hid hR5
          have HM5 := Lib.hid hM5
          clear hR5 hM5
          go_roundw
          case rel => exact ⟨j + 1, vo5, by omega, by go_num, by rw [HCT.out]; exact HR5.out, (HMJ.out.trans (Mv.of_only HO4.out)).trans HM5.out⟩
          case measure => simp [intOf]; omega
      · have hke : cancels (keep (r.runs.take j) id) = cancels (keep r.runs id) := by rw [List.take_of_length_le (by rw [HKK.out]; omega)]
        have hcl : (cancels (keep (r.runs.take j) id)).length ≤ 60 := by rw [cancels_len]; have := keep_len (r.runs.take j) id; rw [List.length_take] at this; omega
        have HKE := Lib.hid hke
        have HCL := Lib.hid hcl
        clear hke hcl z64 d11
        go_upto_region 22 with (go_at_call 44; (with_reducible refine (say_one_rw HRJ.out 3 id 0 HCL.out).mono ?_); rintro e w5 ⟨rfl, hP⟩; have HP := Lib.hid hP; clear hP)
        obtain ⟨vo5, hR5, hM5⟩ := HP.out
        have b12 := hR5.blk.cell 12 _ rfl
        have b11 := hR5.blk.cell 11 _ rfl
        have f12 := hR5.blk.free 12
        have f11 := hR5.blk.free 11
        have hpl5 := hR5.blk.lt
        have HR6 := Lib.hid hR5.over_
        have HM5 := Lib.hid hM5
        clear hR5 hM5
        go_upto_region 23 with fail
        generalize (w5.setCell ⟨p, 12, none⟩ (.bool true)).setCell ⟨p, 11, none⟩ (.slice none 0 0) = w6 at HR6 ⊢
        go_wp2_with (go_at_call 29; (with_reducible refine (told_any (rq_of HR6.out.1)).mono ?_); rintro e w7 ⟨v, rfl, hT⟩; have HT := Lib.hid hT; clear hT)
        go_ret2
        refine ⟨v, rfl, ?_⟩
        rw [← HKE.out]
        have hfin := HT.out.trans ((HMJ.out.trans HM5.out).trans HR6.out.2)
        try rw [HKK.out]
        exact hfin
end
end Go.Proofs.Ytlcblfkmadjppaa
