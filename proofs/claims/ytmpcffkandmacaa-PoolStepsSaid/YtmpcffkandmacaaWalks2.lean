/- slices.IndexFunc at connections; of, at. -/
import Derived.Test.YtmpcffkandmacaaWalks1
import Derived.LaidEqlPtr
namespace Go.Proofs.Ytmpcffkandmacaa
open Go.RowKit
set_option linter.unusedVariables false
set_option linter.unusedSimpArgs false

/-- A row of connections, to be read. -/
def PRow (w : World) (v : Value) (X : List (Nat × Cn)) : Prop :=
  ∃ ao cap, v = .slice ao X.length cap ∧ X.length ≤ cap ∧ cap ≤ 9223372036854775807 ∧ (0 < X.length → ∃ g, ao = some ⟨g, 0, none⟩ ∧ g < w.heap.size ∧ ∀ i x, X[i]? = some x → w.cell? ⟨g, i, none⟩ = some (ptr x.1))
theorem pRow_of {w : World} {lo : Nat} {v : Value} {X : List (Nat × Cn)} (h : w.ownsRow lo 65 1 v X.length (ptrs X)) : PRow w v X := by
  obtain ⟨ao, cap, rfl, h1, h2, _, h4⟩ := ownsRow_slice h
  refine ⟨ao, cap, rfl, h1, by unfold maxLen at h2; omega, fun h0 => ?_⟩
  obtain ⟨g, rfl, hg⟩ := h4 h0
  refine ⟨g, rfl, (ownsRow_lt h g hg).2, fun i x hi => ?_⟩
  obtain ⟨hx, ei⟩ := List.getElem?_eq_some_iff.1 hi
  rw [ownsRow_cell h hg i hx]
  unfold ptrs
  rw [List.getElem?_map, hi]
  rfl
theorem PRow.only {w w' : World} {v : Value} {X : List (Nat × Cn)} (h : PRow w v X) (ho : Only (fun _ => False) w w') : PRow w' v X := by
  obtain ⟨ao, cap, rfl, h1, h2, h3⟩ := h
  refine ⟨ao, cap, rfl, h1, h2, fun h0 => ?_⟩
  obtain ⟨g, e, hg, hc⟩ := h3 h0
  refine ⟨g, e, Nat.lt_of_lt_of_le hg ho.size, fun i x hi => ?_⟩
  rw [← hc i x hi]
  unfold World.cell?
  rw [ho.block g hg (fun h => h)]
def idxV (o : Option Nat) : Int := match o with | none => -1 | some i => i

set_option maxRecDepth 100000 in
theorem idxF48 {w : World} {v lb : Value} {X : List (Nat × Cn)} (hr : PRow w v X) (q : Nat × Cn → Bool) (hq : ∀ w', Drawn w w' → ∀ x ∈ X, Calls Try.prog 48 #[ptr x.1, lb] w' fun e w2 => e = .returned (.bool (q x)) ∧ Drawn w' w2) :
    Calls Try.prog 47 #[v, .func (.func 48) #[] #[lb]] w fun e w' => e = .returned (.int .i64 (idxV (X.findIdx? q))) ∧ Drawn w w' := by
  obtain ⟨ao, cap, rfl, hlc, hcm, -⟩ := id hr
  obtain ⟨n, hn⟩ : ∃ n, n = X.length := ⟨_, rfl⟩
  obtain ⟨r, hres⟩ : ∃ r, r = idxV (X.findIdx? q) := ⟨_, rfl⟩
  rw [← hres]
  rw [← hn] at hlc ⊢
  have HR := Lib.hid hr
  have HQ := Lib.hid hq
  have HN := Lib.hid hn
  have HRES := Lib.hid hres
  clear hr hq hn hres
  go_enter Try.func47, Try.ntmps47
  go_wp2
  go_loopw [5, 8] (fun _ i wr => ∃ j : Nat, j ≤ n ∧ i = .int .i64 j ∧ Drawn w wr ∧ ∀ k x, k < j → X[k]? = some x → q x = false) (fun _ i _ => n - (intOf i).toNat)
  case atStart => exact ⟨0, Nat.zero_le _, rfl, Drawn.refl _, fun k x hk => absurd hk (by omega)⟩
  case round =>
    obtain ⟨j, hj, rfl, hD, hF⟩ := hrel
    have HD := Lib.hid hD
    have HF := Lib.hid hF
    clear hD hF
    by_cases hlt : j < n
    · have hjx : j < X.length := by rw [← HN.out]; exact hlt
      obtain ⟨ao', cap', e, _, _, k1⟩ := HR.out.only (HD.out.only (fun _ => False))
      injection e with e1 e2 e3
      subst e1 e3
      obtain ⟨g, rfl, hgl, hc⟩ := k1 (by omega)
      obtain ⟨x, hx⟩ : ∃ x, x = X[j] := ⟨_, rfl⟩
      have hxj : X[j]? = some x := by rw [List.getElem?_eq_getElem hjx, hx]
      have c0 := hc j x hxj
      have hcall := HQ.out wr HD.out x (by rw [hx]; exact List.getElem_mem hjx)
      have HXJ := Lib.hid hxj
      obtain ⟨b, hb⟩ : ∃ b, b = q x := ⟨_, rfl⟩
      rw [← hb] at hcall
      have HB := Lib.hid hb
      have HC := Lib.hid hcall
      clear hc k1 hx hxj hcall hb e2
      cases b with
      | true =>
        go_wp2_with (go_at_call 48; (refine HC.out.mono ?_); rintro e w1 ⟨rfl, hd⟩; have HD1 := Lib.hid hd; clear hd)
        go_ret
        refine ⟨ret_int ?_, HD.out.trans HD1.out⟩
        rw [HRES.out]
        have hfi : X.findIdx? q = some j := by
          rw [List.findIdx?_eq_some_iff_getElem]
          obtain ⟨hjx, ej⟩ := List.getElem?_eq_some_iff.1 HXJ.out
          refine ⟨hjx, by rw [ej]; exact HB.out.symm, fun k hk => ?_⟩
          have := HF.out k X[k] hk (List.getElem?_eq_getElem _)
          rw [this]
          exact Bool.false_ne_true
        rw [hfi]
        rfl
      | false =>
        go_wp2_with (go_at_call 48; (refine HC.out.mono ?_); rintro e w1 ⟨rfl, hd⟩; have HD1 := Lib.hid hd; clear hd)
        go_roundw
        case rel =>
          refine ⟨j + 1, by omega, by go_num, HD.out.trans HD1.out, fun k y hk hy => ?_⟩
          rcases (show k < j ∨ k = j by omega) with h | rfl
          · exact HF.out k y h hy
          · rw [HXJ.out] at hy
            injection hy with hy
            rw [← hy]
            exact HB.out.symm
        case measure => simp [intOf]; omega
    · have hnone : X.findIdx? q = none := by
        rw [List.findIdx?_eq_none_iff]
        intro x hx
        obtain ⟨k, hk, rfl⟩ := List.getElem_of_mem hx
        exact HF.out k _ (by have := HN.out; omega) (List.getElem?_eq_getElem hk)
      have HNO := Lib.hid hnone
      clear hnone
      go_wp2
      go_ret
      exact ⟨ret_int (by rw [HRES.out, HNO.out]; rfl), HD.out⟩

set_option maxRecDepth 100000 in
theorem idxF50 {w : World} {v lb : Value} {X : List (Nat × Cn)} (hr : PRow w v X) (q : Nat × Cn → Bool) (hq : ∀ w', Drawn w w' → ∀ x ∈ X, Calls Try.prog 50 #[ptr x.1, lb] w' fun e w2 => e = .returned (.bool (q x)) ∧ Drawn w' w2) :
    Calls Try.prog 47 #[v, .func (.func 50) #[] #[lb]] w fun e w' => e = .returned (.int .i64 (idxV (X.findIdx? q))) ∧ Drawn w w' := by
  obtain ⟨ao, cap, rfl, hlc, hcm, -⟩ := id hr
  obtain ⟨n, hn⟩ : ∃ n, n = X.length := ⟨_, rfl⟩
  obtain ⟨r, hres⟩ : ∃ r, r = idxV (X.findIdx? q) := ⟨_, rfl⟩
  rw [← hres]
  rw [← hn] at hlc ⊢
  have HR := Lib.hid hr
  have HQ := Lib.hid hq
  have HN := Lib.hid hn
  have HRES := Lib.hid hres
  clear hr hq hn hres
  go_enter Try.func47, Try.ntmps47
  go_wp2
  go_loopw [5, 8] (fun _ i wr => ∃ j : Nat, j ≤ n ∧ i = .int .i64 j ∧ Drawn w wr ∧ ∀ k x, k < j → X[k]? = some x → q x = false) (fun _ i _ => n - (intOf i).toNat)
  case atStart => exact ⟨0, Nat.zero_le _, rfl, Drawn.refl _, fun k x hk => absurd hk (by omega)⟩
  case round =>
    obtain ⟨j, hj, rfl, hD, hF⟩ := hrel
    have HD := Lib.hid hD
    have HF := Lib.hid hF
    clear hD hF
    by_cases hlt : j < n
    · have hjx : j < X.length := by rw [← HN.out]; exact hlt
      obtain ⟨ao', cap', e, _, _, k1⟩ := HR.out.only (HD.out.only (fun _ => False))
      injection e with e1 e2 e3
      subst e1 e3
      obtain ⟨g, rfl, hgl, hc⟩ := k1 (by omega)
      obtain ⟨x, hx⟩ : ∃ x, x = X[j] := ⟨_, rfl⟩
      have hxj : X[j]? = some x := by rw [List.getElem?_eq_getElem hjx, hx]
      have c0 := hc j x hxj
      have hcall := HQ.out wr HD.out x (by rw [hx]; exact List.getElem_mem hjx)
      have HXJ := Lib.hid hxj
      obtain ⟨b, hb⟩ : ∃ b, b = q x := ⟨_, rfl⟩
      rw [← hb] at hcall
      have HB := Lib.hid hb
      have HC := Lib.hid hcall
      clear hc k1 hx hxj hcall hb e2
      cases b with
      | true =>
        go_wp2_with (go_at_call 50; (refine HC.out.mono ?_); rintro e w1 ⟨rfl, hd⟩; have HD1 := Lib.hid hd; clear hd)
        go_ret
        refine ⟨ret_int ?_, HD.out.trans HD1.out⟩
        rw [HRES.out]
        have hfi : X.findIdx? q = some j := by
          rw [List.findIdx?_eq_some_iff_getElem]
          obtain ⟨hjx, ej⟩ := List.getElem?_eq_some_iff.1 HXJ.out
          refine ⟨hjx, by rw [ej]; exact HB.out.symm, fun k hk => ?_⟩
          have := HF.out k X[k] hk (List.getElem?_eq_getElem _)
          rw [this]
          exact Bool.false_ne_true
        rw [hfi]
        rfl
      | false =>
        go_wp2_with (go_at_call 50; (refine HC.out.mono ?_); rintro e w1 ⟨rfl, hd⟩; have HD1 := Lib.hid hd; clear hd)
        go_roundw
        case rel =>
          refine ⟨j + 1, by omega, by go_num, HD.out.trans HD1.out, fun k y hk hy => ?_⟩
          rcases (show k < j ∨ k = j by omega) with h | rfl
          · exact HF.out k y h hy
          · rw [HXJ.out] at hy
            injection hy with hy
            rw [← hy]
            exact HB.out.symm
        case measure => simp [intOf]; omega
    · have hnone : X.findIdx? q = none := by
        rw [List.findIdx?_eq_none_iff]
        intro x hx
        obtain ⟨k, hk, rfl⟩ := List.getElem_of_mem hx
        exact HF.out k _ (by have := HN.out; omega) (List.getElem?_eq_getElem hk)
      have HNO := Lib.hid hnone
      clear hnone
      go_wp2
      go_ret
      exact ⟨ret_int (by rw [HRES.out, HNO.out]; rfl), HD.out⟩

set_option maxRecDepth 100000 in
theorem idxF54 {w : World} {v lb : Value} {X : List (Nat × Cn)} (hr : PRow w v X) (q : Nat × Cn → Bool) (hq : ∀ w', Drawn w w' → ∀ x ∈ X, Calls Try.prog 54 #[ptr x.1, lb] w' fun e w2 => e = .returned (.bool (q x)) ∧ Drawn w' w2) :
    Calls Try.prog 47 #[v, .func (.func 54) #[] #[lb]] w fun e w' => e = .returned (.int .i64 (idxV (X.findIdx? q))) ∧ Drawn w w' := by
  obtain ⟨ao, cap, rfl, hlc, hcm, -⟩ := id hr
  obtain ⟨n, hn⟩ : ∃ n, n = X.length := ⟨_, rfl⟩
  obtain ⟨r, hres⟩ : ∃ r, r = idxV (X.findIdx? q) := ⟨_, rfl⟩
  rw [← hres]
  rw [← hn] at hlc ⊢
  have HR := Lib.hid hr
  have HQ := Lib.hid hq
  have HN := Lib.hid hn
  have HRES := Lib.hid hres
  clear hr hq hn hres
  go_enter Try.func47, Try.ntmps47
  go_wp2
  go_loopw [5, 8] (fun _ i wr => ∃ j : Nat, j ≤ n ∧ i = .int .i64 j ∧ Drawn w wr ∧ ∀ k x, k < j → X[k]? = some x → q x = false) (fun _ i _ => n - (intOf i).toNat)
  case atStart => exact ⟨0, Nat.zero_le _, rfl, Drawn.refl _, fun k x hk => absurd hk (by omega)⟩
  case round =>
    obtain ⟨j, hj, rfl, hD, hF⟩ := hrel
    have HD := Lib.hid hD
    have HF := Lib.hid hF
    clear hD hF
    by_cases hlt : j < n
    · have hjx : j < X.length := by rw [← HN.out]; exact hlt
      obtain ⟨ao', cap', e, _, _, k1⟩ := HR.out.only (HD.out.only (fun _ => False))
      injection e with e1 e2 e3
      subst e1 e3
      obtain ⟨g, rfl, hgl, hc⟩ := k1 (by omega)
      obtain ⟨x, hx⟩ : ∃ x, x = X[j] := ⟨_, rfl⟩
      have hxj : X[j]? = some x := by rw [List.getElem?_eq_getElem hjx, hx]
      have c0 := hc j x hxj
      have hcall := HQ.out wr HD.out x (by rw [hx]; exact List.getElem_mem hjx)
      have HXJ := Lib.hid hxj
      obtain ⟨b, hb⟩ : ∃ b, b = q x := ⟨_, rfl⟩
      rw [← hb] at hcall
      have HB := Lib.hid hb
      have HC := Lib.hid hcall
      clear hc k1 hx hxj hcall hb e2
      cases b with
      | true =>
        go_wp2_with (go_at_call 54; (refine HC.out.mono ?_); rintro e w1 ⟨rfl, hd⟩; have HD1 := Lib.hid hd; clear hd)
        go_ret
        refine ⟨ret_int ?_, HD.out.trans HD1.out⟩
        rw [HRES.out]
        have hfi : X.findIdx? q = some j := by
          rw [List.findIdx?_eq_some_iff_getElem]
          obtain ⟨hjx, ej⟩ := List.getElem?_eq_some_iff.1 HXJ.out
          refine ⟨hjx, by rw [ej]; exact HB.out.symm, fun k hk => ?_⟩
          have := HF.out k X[k] hk (List.getElem?_eq_getElem _)
          rw [this]
          exact Bool.false_ne_true
        rw [hfi]
        rfl
      | false =>
        go_wp2_with (go_at_call 54; (refine HC.out.mono ?_); rintro e w1 ⟨rfl, hd⟩; have HD1 := Lib.hid hd; clear hd)
        go_roundw
        case rel =>
          refine ⟨j + 1, by omega, by go_num, HD.out.trans HD1.out, fun k y hk hy => ?_⟩
          rcases (show k < j ∨ k = j by omega) with h | rfl
          · exact HF.out k y h hy
          · rw [HXJ.out] at hy
            injection hy with hy
            rw [← hy]
            exact HB.out.symm
        case measure => simp [intOf]; omega
    · have hnone : X.findIdx? q = none := by
        rw [List.findIdx?_eq_none_iff]
        intro x hx
        obtain ⟨k, hk, rfl⟩ := List.getElem_of_mem hx
        exact HF.out k _ (by have := HN.out; omega) (List.getElem?_eq_getElem hk)
      have HNO := Lib.hid hnone
      clear hnone
      go_wp2
      go_ret
      exact ⟨ret_int (by rw [HRES.out, HNO.out]; rfl), HD.out⟩

theorem clos48 {w : World} {b gs : Nat} {c : Cn} {who : Int} (hb : Blk w b (cnC c) 71) (hg : w.cell? ⟨gs, 0, none⟩ = some (.int .i64 who)) (hgs : gs < w.heap.size) :
    Calls Try.prog 48 #[ptr b, ptr gs] w fun e w' => e = .returned (.bool (decide (c.st ≠ 2) && decide (c.who = who))) ∧ Drawn w w' := by
  have c1 := hb.cell 1 _ rfl
  have c2 := hb.cell 2 _ rfl
  have hbl := hb.lt
  clear hb
  by_cases h1 : c.st = 2
  · have f1 : decide (c.st ≠ 2) = false := decide_eq_false (fun h => h h1)
    rw [f1, Bool.false_and]
    rw [h1] at c1
    clear h1 f1
    go_enter Try.func48, Try.ntmps48
    go_wp2
    go_quiet (fail)
    go_wp2
    go_ret
    exact ⟨rfl, Drawn.of _ _⟩
  · have f1 : decide (c.st ≠ 2) = true := decide_eq_true h1
    have g1 : ((c.st : Int) == 2) = false := beq_eq_false_iff_ne.2 (by omega)
    have g1n : ((c.st : Int) != 2) = true := by rw [bne, g1]; rfl
    rw [f1, Bool.true_and]
    generalize c.st = s at c1 g1 g1n
    obtain ⟨r, hr⟩ : ∃ r, r = decide (c.who = who) := ⟨_, rfl⟩
    rw [← hr]
    have HR := Lib.hid hr
    generalize c.who = v at c2 HR
    clear h1 f1 hr
    by_cases h2 : v = who
    · subst h2
      have hr : r = true := by rw [HR.out]; exact decide_eq_true rfl
      subst hr
      go_enter Try.func48, Try.ntmps48
      go_wp2
      go_quiet (fail)
      go_wp2
      go_ret
      exact ⟨rfl, Drawn.of _ _⟩
    · have hr : r = false := by rw [HR.out]; exact decide_eq_false h2
      subst hr
      have g2 : (v == who) = false := beq_eq_false_iff_ne.2 h2
      clear h2 HR
      go_enter Try.func48, Try.ntmps48
      go_wp2
      go_quiet (fail)
      go_wp2
      go_ret
      exact ⟨rfl, Drawn.of _ _⟩
theorem clos50 {w : World} {b gs : Nat} {c : Cn} {n : Int} (hb : Blk w b (cnC c) 71) (hg : w.cell? ⟨gs, 0, none⟩ = some (.int .i64 n)) (hgs : gs < w.heap.size) :
    Calls Try.prog 50 #[ptr b, ptr gs] w fun e w' => e = .returned (.bool (decide ((c.num : Int) = n))) ∧ Drawn w w' := by
  have c0 := hb.cell 0 _ rfl
  have hbl := hb.lt
  clear hb
  obtain ⟨r, hr⟩ : ∃ r, r = decide ((c.num : Int) = n) := ⟨_, rfl⟩
  rw [← hr]
  have HR := Lib.hid hr
  generalize (c.num : Int) = v at c0 HR
  clear hr
  by_cases h2 : v = n
  · subst h2
    have hr : r = true := by rw [HR.out]; exact decide_eq_true rfl
    subst hr
    go_enter Try.func50, Try.ntmps50
    go_wp2
    go_quiet (fail)
    go_wp2
    go_ret
    exact ⟨rfl, Drawn.of _ _⟩
  · have hr : r = false := by rw [HR.out]; exact decide_eq_false h2
    subst hr
    have g2 : (v == n) = false := beq_eq_false_iff_ne.2 h2
    clear h2 HR
    go_enter Try.func50, Try.ntmps50
    go_wp2
    go_quiet (fail)
    go_wp2
    go_ret
    exact ⟨rfl, Drawn.of _ _⟩
theorem Try.isSize71 : (Try.prog.info? 71).map (·.size) = some 6 := by kernel_rfl
theorem eql_cn {W : World} {a b : Nat} {ca cb : List Value} (ha : Blk W a ca 71) (hb : Blk W b cb 71) : (binOp .eql 65 (ptr a) (ptr b)).run Try.prog W = .ok (.bool (decide (a = b))) W := by
  obtain ⟨j, hj, hjs⟩ := Option.map_eq_some_iff.1 Try.isSize71
  by_cases h : a = b
  · subst h
    rw [decide_eq_true rfl]
    exact run_eql_ptr_same (P := Try.prog) W ⟨a, 0, none⟩ Try.underlying65 hj
  · rw [decide_eq_false h]
    exact run_eql_ptr_other (P := Try.prog) W Try.underlying65 hj (by rw [hjs]; decide) (fun e => h (by injection e)) ha hb
set_option maxRecDepth 100000 in
theorem clos54 {w : World} {b b2 gs : Nat} {ca cb : List Value} (ha : Blk w b ca 71) (hb : Blk w b2 cb 71) (hg : w.cell? ⟨gs, 0, none⟩ = some (ptr b2)) (hgs : gs < w.heap.size) :
    Calls Try.prog 54 #[ptr b, ptr gs] w fun e w' => e = .returned (.bool (decide (b = b2))) ∧ Drawn w w' := by
  have h1 := eql_cn ha hb
  clear ha hb
  obtain ⟨r, hr⟩ : ∃ r, r = decide (b = b2) := ⟨_, rfl⟩
  rw [← hr] at h1 ⊢
  clear hr
  go_enter Try.func54, Try.ntmps54
  go_wp2
  go_ret
  exact ⟨rfl, Drawn.refl _⟩

def cptr (X : List (Nat × Cn)) (o : Option Nat) : Value := match o with | none => .pointer none | some i => ptr (X.getD i default).1
section
variable {w : World} {lo p : Nat} {P : Pp} {X : List (Nat × Cn)} {vl vw : Value}
theorem Pw.ofI_ (h : Pw w lo p P X vl vw) (who : Int) : X.findIdx? (fun x => decide (x.2.st ≠ 2) && decide (x.2.who = who)) = ofI P who := by
  unfold ofI
  rw [h.l, List.findIdx?_map]
  rfl
theorem Pw.atI_ (h : Pw w lo p P X vl vw) (n : Int) : X.findIdx? (fun x => decide ((x.2.num : Int) = n)) = atI P n := by
  unfold atI
  rw [h.l, List.findIdx?_map]
  rfl
theorem ofI_lt {who : Int} {i : Nat} (h : ofI P who = some i) : i < P.l.length := by
  unfold ofI at h
  rw [List.findIdx?_eq_some_iff_getElem] at h
  exact h.1
theorem atI_lt {n : Int} {i : Nat} (h : atI P n = some i) : i < P.l.length := by
  unfold atI at h
  rw [List.findIdx?_eq_some_iff_getElem] at h
  exact h.1

set_option maxRecDepth 100000 in
theorem of_any (h : Pw w lo p P X vl vw) (who : Int) : Calls Try.prog 24 #[ptr p, .int .i64 who] w fun e w' => e = .returned (cptr X (ofI P who)) ∧ Only (fun _ => False) w w' := by
  have e0 := h.ofI_ who
  have ho : Only (fun _ => False) w (w.alloc (Obj.cells #[.int .i64 who] 3)) := (Only.refl _ _).alloc _
  have hbx : Blk (w.alloc (Obj.cells #[.int .i64 who] 3)) w.heap.size [.int .i64 who] 3 := Blk.new w [.int .i64 who] 3
  have hR := h.only ho (fun _ _ h => h)
  obtain ⟨r, hr⟩ : ∃ r, r = ofI P who := ⟨_, rfl⟩
  rw [← hr] at e0 ⊢
  have hidx : ∀ w', Drawn (w.alloc (Obj.cells #[.int .i64 who] 3)) w' → Calls Try.prog 47 #[vl, .func (.func 48) #[] #[ptr w.heap.size]] w' fun e w2 => e = .returned (.int .i64 (idxV r)) ∧ Drawn w' w2 := fun w' hd => by
    rw [← e0]
    have hR' := hR.only (hd.only (fun _ => False)) (fun _ _ h => h)
    have hbx' := hbx.only (hd.only (fun _ => False)) (fun h => h)
    refine idxF48 (pRow_of hR'.row) _ (fun w2 hd2 x hx => ?_)
    have hbx2 := hbx'.only (hd2.only (fun _ => False)) (fun h => h)
    exact clos48 ((hR'.cn x hx).1.only (hd2.only (fun _ => False)) (fun h => h)) (hbx2.cell 0 _ rfl) hbx2.lt
  have HI := Lib.hid hidx
  obtain ⟨g, hg⟩ : ∃ g, g = w.heap.size := ⟨_, rfl⟩
  have c6 := hR.blk.cell 6 _ rfl
  have hpl := hR.blk.lt
  obtain ⟨ao, cap, hv, hc1, hc2, -⟩ := pRow_of hR.row
  cases r with
  | none =>
    rw [hv] at c6 HI
    have HO := Lib.hid ho
    clear h hR hidx e0 ho hbx hr hv hg
    go_enter Try.func24, Try.ntmps24
    go_wp2_with (go_at_call 47; (refine (HI.out _ (Drawn.refl _)).mono ?_); rintro e w2 ⟨rfl, hd⟩; have HD := Lib.hid hd; clear hd; simp only [idxV])
    go_ret
    exact ⟨rfl, HO.out.trans (HD.out.only (fun _ => False)) (fun _ _ h => h)⟩
  | some i =>
    have hil : i < P.l.length := ofI_lt hr.symm
    have hix : i < X.length := by rw [← h.len]; exact hil
    obtain ⟨b, hb⟩ := h.at_ hil
    have hd1 : cptr X (some i) = ptr b := by simp [cptr, List.getD_eq_getElem?_getD, hb]
    rw [hd1]
    have hcell : ∀ w', Only (fun _ => False) (w.alloc (Obj.cells #[.int .i64 who] 3)) w' → p < w'.heap.size ∧ w'.cell? ⟨p, 6, none⟩ = some vl ∧ ∃ g2, ao = some ⟨g2, 0, none⟩ ∧ g2 < w'.heap.size ∧ w'.cell? ⟨g2, i, none⟩ = some (ptr b) := fun w' ho' => by
      have hR' := hR.only ho' (fun _ _ h => h)
      obtain ⟨ao', cap', e', _, _, k⟩ := pRow_of hR'.row
      rw [hv] at e'
      injection e' with e1 _ _
      obtain ⟨g2, e2, hg2, hcc⟩ := k (by omega)
      exact ⟨hR'.blk.lt, hR'.blk.cell 6 _ rfl, g2, e1.trans e2, hg2, hcc i _ hb⟩
    have HCE := Lib.hid hcell
    rw [hv] at c6 HI HCE
    have HO := Lib.hid ho
    generalize hnn : X.length = n at hix hc1 c6 HI HCE
    clear h hR hidx e0 ho hbx hr hv hg hil hb hd1 hcell hnn
    go_enter Try.func24, Try.ntmps24
    go_upto_region 4 with (go_at_call 47; (refine (HI.out _ (Drawn.refl _)).mono ?_); rintro e w2 ⟨rfl, hd⟩; have HD := Lib.hid hd; clear hd; simp only [idxV])
    obtain ⟨hp2, k6, g2, rfl, hg2, k0⟩ := HCE.out w2 (HD.out.only (fun _ => False))
    go_wp2
    go_ret
    exact ⟨rfl, HO.out.trans (HD.out.only (fun _ => False)) (fun _ _ h => h)⟩

set_option maxRecDepth 100000 in
theorem at_any (h : Pw w lo p P X vl vw) (who : Int) : Calls Try.prog 27 #[ptr p, .int .i64 who] w fun e w' => e = .returned (cptr X (atI P who)) ∧ Only (fun _ => False) w w' := by
  have e0 := h.atI_ who
  have ho : Only (fun _ => False) w (w.alloc (Obj.cells #[.int .i64 who] 3)) := (Only.refl _ _).alloc _
  have hbx : Blk (w.alloc (Obj.cells #[.int .i64 who] 3)) w.heap.size [.int .i64 who] 3 := Blk.new w [.int .i64 who] 3
  have hR := h.only ho (fun _ _ h => h)
  obtain ⟨r, hr⟩ : ∃ r, r = atI P who := ⟨_, rfl⟩
  rw [← hr] at e0 ⊢
  have hidx : ∀ w', Drawn (w.alloc (Obj.cells #[.int .i64 who] 3)) w' → Calls Try.prog 47 #[vl, .func (.func 50) #[] #[ptr w.heap.size]] w' fun e w2 => e = .returned (.int .i64 (idxV r)) ∧ Drawn w' w2 := fun w' hd => by
    rw [← e0]
    have hR' := hR.only (hd.only (fun _ => False)) (fun _ _ h => h)
    have hbx' := hbx.only (hd.only (fun _ => False)) (fun h => h)
    refine idxF50 (pRow_of hR'.row) _ (fun w2 hd2 x hx => ?_)
    have hbx2 := hbx'.only (hd2.only (fun _ => False)) (fun h => h)
    exact clos50 ((hR'.cn x hx).1.only (hd2.only (fun _ => False)) (fun h => h)) (hbx2.cell 0 _ rfl) hbx2.lt
  have HI := Lib.hid hidx
  obtain ⟨g, hg⟩ : ∃ g, g = w.heap.size := ⟨_, rfl⟩
  have c6 := hR.blk.cell 6 _ rfl
  have hpl := hR.blk.lt
  obtain ⟨ao, cap, hv, hc1, hc2, -⟩ := pRow_of hR.row
  cases r with
  | none =>
    rw [hv] at c6 HI
    have HO := Lib.hid ho
    clear h hR hidx e0 ho hbx hr hv hg
    go_enter Try.func27, Try.ntmps27
    go_wp2_with (go_at_call 47; (refine (HI.out _ (Drawn.refl _)).mono ?_); rintro e w2 ⟨rfl, hd⟩; have HD := Lib.hid hd; clear hd; simp only [idxV])
    go_ret
    exact ⟨rfl, HO.out.trans (HD.out.only (fun _ => False)) (fun _ _ h => h)⟩
  | some i =>
    have hil : i < P.l.length := atI_lt hr.symm
    have hix : i < X.length := by rw [← h.len]; exact hil
    obtain ⟨b, hb⟩ := h.at_ hil
    have hd1 : cptr X (some i) = ptr b := by simp [cptr, List.getD_eq_getElem?_getD, hb]
    rw [hd1]
    have hcell : ∀ w', Only (fun _ => False) (w.alloc (Obj.cells #[.int .i64 who] 3)) w' → p < w'.heap.size ∧ w'.cell? ⟨p, 6, none⟩ = some vl ∧ ∃ g2, ao = some ⟨g2, 0, none⟩ ∧ g2 < w'.heap.size ∧ w'.cell? ⟨g2, i, none⟩ = some (ptr b) := fun w' ho' => by
      have hR' := hR.only ho' (fun _ _ h => h)
      obtain ⟨ao', cap', e', _, _, k⟩ := pRow_of hR'.row
      rw [hv] at e'
      injection e' with e1 _ _
      obtain ⟨g2, e2, hg2, hcc⟩ := k (by omega)
      exact ⟨hR'.blk.lt, hR'.blk.cell 6 _ rfl, g2, e1.trans e2, hg2, hcc i _ hb⟩
    have HCE := Lib.hid hcell
    rw [hv] at c6 HI HCE
    have HO := Lib.hid ho
    generalize hnn : X.length = n at hix hc1 c6 HI HCE
    clear h hR hidx e0 ho hbx hr hv hg hil hb hd1 hcell hnn
    go_enter Try.func27, Try.ntmps27
    go_upto_region 6 with (go_at_call 47; (refine (HI.out _ (Drawn.refl _)).mono ?_); rintro e w2 ⟨rfl, hd⟩; have HD := Lib.hid hd; clear hd; simp only [idxV])
    obtain ⟨hp2, k6, g2, rfl, hg2, k0⟩ := HCE.out w2 (HD.out.only (fun _ => False))
    go_wp2
    go_ret
    exact ⟨rfl, HO.out.trans (HD.out.only (fun _ => False)) (fun _ _ h => h)⟩

theorem at_nil (n : Int) (w : World) : Calls Try.prog 27 #[.pointer none, .int .i64 n] w fun e w' => e = .returned (.pointer none) ∧ Only (fun _ => False) w w' := by
  go_enter Try.func27, Try.ntmps27
  go_wp2
  go_ret
  exact ⟨rfl, (Only.refl _ _).alloc _⟩
end
end Go.Proofs.Ytmpcffkandmacaa
