/- Time whole; nil requests; Running. -/
import Derived.Test.YtlcblfkmadjppaaWalks13
namespace Go.Proofs.Ytlcblfkmadjppaa
open Go.RowKit
set_option linter.unusedVariables false
set_option linter.unusedSimpArgs false

/-- What Time tells. -/
def timeI (r : Rq) (now : Int) (allow : Bool) : Rq × List Ac × Int :=
  if ¬ isMoment now then (r, [], 1) else ((timeR r now.toNat allow).1, (timeR r now.toNat allow).2, 0)

section
variable {F : Nat → Prop} {w : World} {lo p : Nat} {r : Rq} {o : List Ac}

theorem time_any (h : RQ F w lo p r []) (hok : Okq r) (now : Int) (allow : Bool) :
    Calls Try.prog 22 #[.pointer (some ⟨p, 0, none⟩), .int .i64 now, .bool allow] w fun e w' =>
      ∃ v, e = .returned (.tuple #[v, .int .i64 (timeI r now allow).2.2]) ∧ Told F w w' lo p (timeI r now allow).1 v (timeI r now allow).2.1 := by
  unfold timeI
  by_cases hm : isMoment now
  · rw [if_neg (fun h => h hm)]
    have hm0 := hm
    obtain ⟨h0, h1⟩ := hm0
    obtain ⟨n, rfl⟩ : ∃ n : Nat, now = n := ⟨now.toNat, by omega⟩
    have hn : n ≤ 4611686018427387904 := by omega
    rw [Int.toNat_natCast]
    clear h0 h1 hm
    cases hov : r.over with
    | true =>
      have ht : timeR r n allow = (r, []) := by unfold timeR; rw [if_pos hov]
      rw [ht]
      have H := Lib.hid h
      have HV := Lib.hid hov
      clear h hok hov ht
      go_enter Try.func22, Try.ntmps22
      go_wp2_with (first
        | (go_at_call 27; (with_reducible refine (moment_ok n _ hn).mono ?_); rintro e w' ⟨rfl, rfl⟩)
        | (go_at_call 12; (with_reducible refine (over_any H.out).mono ?_); rintro e w' ⟨rfl, rfl⟩; rw [HV.out]))
      go_ret2
      exact ⟨_, rfl, Told.none_ H.out (Only.refl _ _)⟩
    | false =>
      by_cases ht : later r.since r.pl.total ≤ n
      · have e : timeR r n allow = (isOver r, cancels r.runs ++ [⟨4, -1, 504⟩]) := by
          unfold timeR
          rw [if_neg (by rw [hov]; decide), if_pos ht]
          rfl
        rw [e]
        exact time_total h hok hov n hn allow ht
      · have e : timeR r n allow = ((hedgeR (lates n allow r.runs (r, [])).1 n allow).1, (lates n allow r.runs (r, [])).2 ++ (hedgeR (lates n allow r.runs (r, [])).1 n allow).2) := by
          unfold timeR
          rw [if_neg (by rw [hov]; decide), if_neg ht]
        rw [e]
        exact time_late h hok hov n hn allow ht
  · rw [if_pos hm]
    have hb : now < 0 ∨ 4611686018427387904 < now := by unfold isMoment at hm; omega
    have HB := Lib.hid hb
    have H := Lib.hid h
    clear hm hb h hok
    go_enter Try.func22, Try.ntmps22
    go_wp2_with (go_at_call 27; (with_reducible refine (moment_bad now _ HB.out).mono ?_); rintro e w' ⟨rfl, rfl⟩)
    go_ret2
    exact ⟨_, rfl, Told.none_ H.out (Only.refl _ _)⟩
end

section
theorem fail_nil (n : Nat) (hn : n ≤ 4611686018427387904) (id why : Int) (h1 : 1 ≤ why) (h2 : why ≤ 4) (allow : Bool) (w : World) :
    Calls Try.prog 23 #[.pointer none, .int .i64 n, .int .i64 id, .int .i64 why, .bool allow] w fun e w' => e = .returned (.tuple #[.slice none 0 0, .int .i64 6]) ∧ Only (fun _ => False) w w' := by
  have f1 : decide (why < 1) = false := decide_eq_false (by omega)
  have f2 : decide (4 < why) = false := decide_eq_false (by omega)
  go_enter Try.func23, Try.ntmps23
  go_wp2_with (first
    | (go_at_call 27; (with_reducible refine (moment_ok n _ hn).mono ?_); rintro e w' ⟨rfl, rfl⟩)
    | (go_at_call 47; (with_reducible refine (find_nil id _).mono ?_); rintro e w1 ⟨rfl, hO⟩; have HO := Lib.hid hO; clear hO))
  go_ret2
  exact ⟨rfl, HO.out⟩
theorem fail_badm (now id why : Int) (hb : now < 0 ∨ 4611686018427387904 < now) (allow : Bool) (q : Option Addr) (w : World) :
    Calls Try.prog 23 #[.pointer q, .int .i64 now, .int .i64 id, .int .i64 why, .bool allow] w fun e w' => e = .returned (.tuple #[.slice none 0 0, .int .i64 1]) ∧ w = w' := by
  have HB := Lib.hid hb
  clear hb
  go_enter Try.func23, Try.ntmps23
  go_wp2_with (go_at_call 27; (with_reducible refine (moment_bad now _ HB.out).mono ?_); rintro e w' ⟨rfl, rfl⟩)
  go_ret2
  exact ⟨rfl, rfl⟩
theorem head_nil (n : Nat) (hn : n ≤ 4611686018427387904) (id status : Int) (allow : Bool) (w : World) :
    Calls Try.prog 24 #[.pointer none, .int .i64 n, .int .i64 id, .int .i64 status, .bool allow] w fun e w' => e = .returned (.tuple #[.slice none 0 0, .int .i64 6]) ∧ Only (fun _ => False) w w' := by
  go_enter Try.func24, Try.ntmps24
  go_wp2_with (first
    | (go_at_call 27; (with_reducible refine (moment_ok n _ hn).mono ?_); rintro e w' ⟨rfl, rfl⟩)
    | (go_at_call 47; (with_reducible refine (find_nil id _).mono ?_); rintro e w1 ⟨rfl, hO⟩; have HO := Lib.hid hO; clear hO))
  go_ret2
  exact ⟨rfl, HO.out⟩
theorem head_badm (now id status : Int) (hb : now < 0 ∨ 4611686018427387904 < now) (allow : Bool) (q : Option Addr) (w : World) :
    Calls Try.prog 24 #[.pointer q, .int .i64 now, .int .i64 id, .int .i64 status, .bool allow] w fun e w' => e = .returned (.tuple #[.slice none 0 0, .int .i64 1]) ∧ w = w' := by
  have HB := Lib.hid hb
  clear hb
  go_enter Try.func24, Try.ntmps24
  go_wp2_with (go_at_call 27; (with_reducible refine (moment_bad now _ HB.out).mono ?_); rintro e w' ⟨rfl, rfl⟩)
  go_ret2
  exact ⟨rfl, rfl⟩
theorem time_nil (n : Nat) (hn : n ≤ 4611686018427387904) (allow : Bool) (w : World) :
    Calls Try.prog 22 #[.pointer none, .int .i64 n, .bool allow] w fun e w' => e = .returned (.tuple #[.slice none 0 0, .int .i64 0]) ∧ w = w' := by
  go_enter Try.func22, Try.ntmps22
  go_wp2_with (first
    | (go_at_call 27; (with_reducible refine (moment_ok n _ hn).mono ?_); rintro e w' ⟨rfl, rfl⟩)
    | (go_at_call 12; (with_reducible refine (over_nil _).mono ?_); rintro e w' ⟨rfl, rfl⟩))
  go_ret2
  exact ⟨rfl, rfl⟩
theorem time_badm (now : Int) (hb : now < 0 ∨ 4611686018427387904 < now) (allow : Bool) (q : Option Addr) (w : World) :
    Calls Try.prog 22 #[.pointer q, .int .i64 now, .bool allow] w fun e w' => e = .returned (.tuple #[.slice none 0 0, .int .i64 1]) ∧ w = w' := by
  have HB := Lib.hid hb
  clear hb
  go_enter Try.func22, Try.ntmps22
  go_wp2_with (go_at_call 27; (with_reducible refine (moment_bad now _ HB.out).mono ?_); rintro e w' ⟨rfl, rfl⟩)
  go_ret2
  exact ⟨rfl, rfl⟩
theorem next_nil (w : World) : Calls Try.prog 19 #[.pointer none] w fun e w' => e = .returned (.tuple #[.int .i64 0, .bool false]) ∧ w = w' := by
  go_enter Try.func19, Try.ntmps19
  go_wp2_with (go_at_call 12; (with_reducible refine (over_nil _).mono ?_); rintro e w' ⟨rfl, rfl⟩)
  go_ret2
  exact ⟨rfl, rfl⟩
theorem running_nil (w : World) : Calls Try.prog 13 #[.pointer none] w fun e w' => e = .returned (.slice none 0 0) ∧ w = w' := by
  go_enter Try.func13, Try.ntmps13
  go_wp2
  go_ret
  exact ⟨rfl, rfl⟩
end

def ints (l : List Int) : List Value := l.map (Value.int .i64)
def Ints (w : World) (lo : Nat) (v : Value) (l : List Int) : Prop := w.ownsRow lo 3 1 v l.length (ints l)
def idsOf (l : List Run) : List Int := l.map fun x => (x.id : Int)
theorem idsOf_len (l : List Run) : (idsOf l).length = l.length := by simp [idsOf]
theorem Try.info3 : (Try.prog.info? 3).map (fun i => (i.zero, i.size, i.bytes)) = some (some (.int .i64 0), 1, 8) := by kernel_rfl

section
variable {F : Nat → Prop} {w : World} {lo p : Nat} {r : Rq} {o : List Ac}
set_option maxRecDepth 100000 in
set_option maxHeartbeats 1600000 in
theorem running_any (h : RQ F w lo p r o) (hok : Okw r) :
    Calls Try.prog 13 #[.pointer (some ⟨p, 0, none⟩)] w fun e w' => ∃ v, e = .returned v ∧ Ints w' w.heap.size v (idsOf r.runs) ∧ Only (fun _ => False) w w' := by
  obtain ⟨i3, hi3, hz30, hz31, hz32⟩ := info_parts Try.info3
  have hl9 := hok.len9
  have hlt9 := hok.lt
  have hm9 := hok.made9
  obtain ⟨vr, vo, hR, rfl⟩ := h
  obtain ⟨ar, cr, rfl, hcr1, hcr2, _, _⟩ := ownsRow_slice hR.runs
  have hcr3 : cr ≤ 9223372036854775807 := by unfold maxLen at hcr2; omega
  obtain ⟨kk, hkk⟩ : ∃ kk, kk = r.runs.length := ⟨_, rfl⟩
  rw [← hkk] at hR hcr1 hl9
  have d11 := hR.blk.cell 11 _ rfl
  have hpl := hR.blk.lt
  have HR := Lib.hid hR
  have HKK := Lib.hid hkk
  have HLT := Lib.hid hlt9
  have z64 := zero64
  clear hR hok hkk hcr2 hlt9
  go_enter Try.func13, Try.ntmps13
  go_upto_region 5 with fail
  go_loopw [3, 5, 13] (fun v _ i wr => ∃ j : Nat, j ≤ kk ∧ i = .int .i64 j ∧ Ints wr w.heap.size v (idsOf (r.runs.take j)) ∧ Only (fun _ => False) w wr) (fun _ _ i _ => kk - (intOf i).toNat)
  case atStart => exact ⟨0, Nat.zero_le _, rfl, World.ownsRow_nil _ _ _ _, Only.refl _ _⟩
  case round =>
    obtain ⟨j, hj, rfl, hI, hO⟩ := hrel
    unfold Ints at hI
    obtain ⟨ao, bc, rfl, hb1, hb2, _, _⟩ := ownsRow_slice hI
    have hlj : (idsOf (r.runs.take j)).length = j := by rw [idsOf_len, List.length_take]; have := HKK.out; omega
    rw [hlj] at hI hb1 ⊢
    have HI := Lib.hid hI
    have HO := Lib.hid hO
    clear hI hO hlj
    by_cases hlt : j < kk
    · have hjr : j < r.runs.length := by rw [← HKK.out]; exact hlt
      obtain ⟨g, rfl, hgl, e0, e1⟩ := (HR.out.only HO.out (fun _ _ h => h)).runsAt rfl hjr
      obtain ⟨x, hx⟩ : ∃ x, x = runAt r.runs j := ⟨_, rfl⟩
      rw [← hx] at e0 e1
      have hct : idsOf (r.runs.take (j + 1)) = idsOf (r.runs.take j) ++ [(x.id : Int)] := by
        unfold idsOf
        rw [List.take_succ_eq_append_getElem hjr, List.map_append, hx, runAt_eq hjr]
        rfl
      have hxi : x.id < 1000000 := by
        have := HLT.out x (by rw [hx, runAt_eq hjr]; exact List.getElem_mem hjr)
        omega
      have HCT := Lib.hid hct
      have hwz := HO.out.size
      clear hx hjr hct
      have ho4 : Only (fun _ => False) wr (wr.alloc (Obj.cells #[.int .i64 x.id, .int .i64 x.since] 64)) := (Only.refl _ _).alloc _
      have hb4 : Blk (wr.alloc (Obj.cells #[.int .i64 x.id, .int .i64 x.since] 64)) wr.heap.size [.int .i64 x.id, .int .i64 x.since] 64 := Blk.new wr [.int .i64 x.id, .int .i64 x.since] 64
      go_upto_region 7 with fail
      obtain ⟨q, hq⟩ : ∃ q, q = wr.heap.size := ⟨_, rfl⟩
      rw [← hq] at hb4 ⊢
      clear hq
      have hI4 := owns_only HI.out ho4 (fun _ _ h => h)
      generalize wr.alloc (Obj.cells #[.int .i64 x.id, .int .i64 x.since] 64) = w4 at ho4 hb4 hI4 ⊢
      have b0 := hb4.cell 0 _ rfl
      have hql := hb4.lt
      have hz4 := ho4.size
      have HI4 := Lib.hid hI4
      have HO4 := Lib.hid (HO.out.trans ho4 (fun _ _ h => h))
      clear ho4 hb4 e0 e1 z64 hI4
      go_wp2_with (at_builtin; refine wpList_append_row rfl (.tmp 17) (.tmp 20) 39 rfl w.heap.size 3 i3 (.int .i64 0) 1 8 Try.underlying39 hi3 hz30 hz31 hz32 rfl (by decide) (.slice ao j bc) j (ints (idsOf (r.runs.take j))) rfl (HI4.out.alloc _) (some ⟨w4.heap.size, 0, none⟩) 1 1 [.int .i64 x.id] rfl rfl (fun _ => ⟨_, rfl, new_one _ _ _⟩) (fun e => by cases e) (one_int _ _) (by unfold maxLen; omega) (by omega) (by simp only [World.size_alloc]; omega) ?_)
      intro v2 w5 hown2 hon2 _ _
      obtain ⟨a2, k2, rfl, _, _, _, _⟩ := ownsRow_slice hown2
      have HW := Lib.hid hown2
      have HN := Lib.hid hon2
      clear hown2 hon2
      go_wp2_with fail
      go_roundw
      case rel =>
        refine ⟨j + 1, by omega, by go_num, ?_, (HO4.out.alloc _).trans HN.out (fun i hi e => ?_)⟩
        · unfold Ints
          rw [HCT.out, List.length_append, List.length_singleton, idsOf_len, List.length_take, Nat.min_eq_left (by have := HKK.out; omega)]
          unfold ints
          rw [List.map_append]
          exact HW.out
        · have := (ownsRow_lt HI4.out i e).1
          omega
      case measure => simp [intOf]; omega
    · have hke : r.runs.take j = r.runs := by rw [List.take_of_length_le (by rw [← HKK.out]; omega)]
      have hjk : j = kk := by omega
      have HKE := Lib.hid hke
      have HJ := Lib.hid hjk
      clear hke hjk
      go_wp2_with fail
      go_ret
      refine ⟨_, rfl, ?_, HO.out⟩
      unfold Ints
      rw [idsOf_len, ← HKK.out, ← HJ.out, ← HKE.out]
      exact HI.out
end
end Go.Proofs.Ytlcblfkmadjppaa
