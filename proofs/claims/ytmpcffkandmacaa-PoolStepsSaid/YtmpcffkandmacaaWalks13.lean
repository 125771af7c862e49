/- Expire. -/
import Derived.Test.YtmpcffkandmacaaWalks12
namespace Go.Proofs.Ytmpcffkandmacaa
open Go.RowKit
set_option linter.unusedVariables false
set_option linter.unusedSimpArgs false

/-- What is left, and what is closed, behind the first j. -/
def exL (P : Pp) (now : Nat) (l : List Cn) (j : Nat) : List Cn := (l.take j).filter (fun c => !stale P now c) ++ l.drop j
def exX (P : Pp) (now : Nat) (X : List (Nat × Cn)) (j : Nat) : List (Nat × Cn) := (X.take j).filter (fun x => !stale P now x.2) ++ X.drop j
def exP (P : Pp) (now j : Nat) : Pp := { P with l := exL P now P.l j }
def exC (P : Pp) (now j : Nat) : List Ac := ((P.l.take j).filter (stale P now)).map fun c => ⟨5, c.num, -1⟩
theorem exP_zero (P : Pp) (now : Nat) : exP P now 0 = P := by simp [exP, exL]
theorem exX_zero (P : Pp) (now : Nat) (X : List (Nat × Cn)) : exX P now X 0 = X := by simp [exX]
theorem exP_all (P : Pp) (now : Nat) : exP P now P.l.length = expireL P now := by
  unfold exP exL expireL
  rw [List.take_length, List.drop_length, List.append_nil]
theorem exC_all (P : Pp) (now : Nat) : exC P now P.l.length = closes P now := by
  unfold exC closes
  rw [List.take_length]
section
variable {P : Pp} {now j : Nat} {X : List (Nat × Cn)}
theorem exX_stays {b : Nat} {c : Cn} (hj : X[j]? = some (b, c)) (hs : stale P now c = false) : exX P now X (j + 1) = exX P now X j := by
  obtain ⟨hx, he⟩ := List.getElem?_eq_some_iff.1 hj
  unfold exX
  rw [List.take_succ_eq_append_getElem hx, List.filter_append, List.append_assoc]
  conv => rhs; rw [List.drop_eq_getElem_cons hx]
  rw [he]
  simp [hs]
theorem exX_at {x : Nat × Cn} (hj : X[j]? = some x) : (exX P now X j)[((X.take j).filter (fun x => !stale P now x.2)).length]? = some x := by
  unfold exX
  rw [List.getElem?_append_right (Nat.le_refl _), Nat.sub_self, List.getElem?_drop, Nat.add_zero]
  exact hj
theorem exX_goes {b : Nat} {c : Cn} (hj : X[j]? = some (b, c)) (hs : stale P now c = true) :
    (exX P now X j)[((X.take j).filter (fun x => !stale P now x.2)).length]? = some (b, c) ∧ exX P now X (j + 1) = (exX P now X j).eraseIdx ((X.take j).filter (fun x => !stale P now x.2)).length := by
  obtain ⟨hx, he⟩ := List.getElem?_eq_some_iff.1 hj
  unfold exX
  constructor
  · rw [List.getElem?_append_right (Nat.le_refl _), Nat.sub_self, List.getElem?_drop, Nat.add_zero]
    exact hj
  · rw [List.take_succ_eq_append_getElem hx, List.filter_append, he]
    rw [List.eraseIdx_append_of_length_le (Nat.le_refl _), Nat.sub_self]
    conv => rhs; rw [List.drop_eq_getElem_cons hx]
    simp [hs]
theorem exL_map (hl : P.l = X.map (·.2)) : exL P now P.l j = (exX P now X j).map (·.2) := by
  unfold exL exX
  rw [hl, List.map_append, List.map_drop, ← List.map_take, List.filter_map]
  rfl
theorem exC_stays {b : Nat} {c : Cn} (hl : P.l = X.map (·.2)) (hj : X[j]? = some (b, c)) (hs : stale P now c = false) : exC P now (j + 1) = exC P now j := by
  obtain ⟨hx, he⟩ := List.getElem?_eq_some_iff.1 hj
  have hx' : j < P.l.length := by rw [hl]; simpa using hx
  have e : P.l[j] = c := by simp only [hl, List.getElem_map]; rw [he]
  unfold exC
  rw [List.take_succ_eq_append_getElem hx', List.filter_append, e]
  simp [hs]
theorem exC_goes {b : Nat} {c : Cn} (hl : P.l = X.map (·.2)) (hj : X[j]? = some (b, c)) (hs : stale P now c = true) : exC P now (j + 1) = exC P now j ++ [⟨5, c.num, -1⟩] := by
  obtain ⟨hx, he⟩ := List.getElem?_eq_some_iff.1 hj
  have hx' : j < P.l.length := by rw [hl]; simpa using hx
  have e : P.l[j] = c := by simp only [hl, List.getElem_map]; rw [he]
  unfold exC
  rw [List.take_succ_eq_append_getElem hx', List.filter_append, e]
  simp [hs]
theorem exP_ok {k : Nat} (h : Okp P k) : Okp (exP P now j) k := by
  have hsub : ∀ c ∈ exL P now P.l j, c ∈ P.l := fun c hc => by
    unfold exL at hc
    rcases List.mem_append.1 hc with hc | hc
    · exact List.mem_of_mem_take (List.mem_filter.1 hc).1
    · exact List.mem_of_mem_drop hc
  have hlen : (exL P now P.l j).length ≤ P.l.length := by
    unfold exL
    have := List.length_filter_le (fun c => !stale P now c) (P.l.take j)
    simp only [List.length_append, List.length_drop, List.length_take] at this ⊢
    omega
  exact ⟨⟨h.n.c, h.n.d, h.n.i, h.n.f⟩, fun c hc => h.t c (hsub c hc), Nat.le_trans hlen h.c, h.p, h.x, h.r⟩
theorem exC_len : (exC P now j).length ≤ P.l.length := by
  unfold exC
  rw [List.length_map]
  exact Nat.le_trans (List.length_filter_le _ _) (by rw [List.length_take]; omega)
end
section
variable {F : Nat → Prop} {w0 w : World} {lo p : Nat} {P : Pp} {X : List (Nat × Cn)} {vl vw : Value}
set_option maxRecDepth 100000 in
theorem clone_ptrs {v : Value} (h : w.ownsRow lo 65 1 v X.length (ptrs X)) (hl : X.length ≤ 64) :
    Calls Try.prog 34 #[v] w fun e w' => ∃ v', e = .returned v' ∧ w'.ownsRow w.heap.size 65 1 v' X.length (ptrs X) ∧ Only (fun _ => False) w w' := by
  obtain ⟨i65, hi65, hz0, hz1, hz2⟩ := info_parts Try.info65
  obtain ⟨ao, cap, rfl, h1, h2, hn, h4⟩ := ownsRow_slice h
  obtain ⟨k, hk⟩ : ∃ k, k = X.length := ⟨_, rfl⟩
  have hcm : cap ≤ 9223372036854775807 := by unfold maxLen at h2; omega
  cases ao with
  | none =>
    have h0 : X.length = 0 := by have := hn rfl; omega
    have hx : X = [] := List.eq_nil_of_length_eq_zero h0
    subst hx
    have hc0 := hn rfl
    subst hc0
    clear h h4 hn hk
    simp only [List.length_nil] at *
    have e61 : ∀ w : World, (binOp .eql 61 (.slice none 0 0) (.slice none 0 0)).run Try.prog w = .ok (.bool true) w := fun w => Lib.run_eql_slice_nil w 61 65 _ _ _ _ _ Try.underlying61
    go_enter Try.func34, Try.ntmps34
    go_wp2
    go_ret
    exact ⟨_, rfl, World.ownsRow_nil _ _ _ _, Only.refl _ _⟩
  | some a =>
    have hcell : ∀ j u, (ptrs X)[j]? = some u → w.cell? (a.add j) = some u := fun j u hj => by
      rcases h.2 with ⟨e, _⟩ | ⟨g, cap', cur, e, _⟩
      · cases e
      · injection e with e1
        injection e1 with e1
        subst e1
        exact h.cells rfl j u hj
    have hcl : ∀ j u, (ptrs X)[j]? = some u → (a.add j).block < w.heap.size := fun j u hj => block_lt_of_cell (hcell j u hj)
    rw [← hk] at hl h1
    rw [← hk]
    have HK := Lib.hid hk
    have HC := Lib.hid hcell
    have HCL := Lib.hid hcl
    clear h hcell hcl hk h2 h4 hn
    have e61 : ∀ w : World, (binOp .eql 61 (.slice (some a) k cap) (.slice none 0 0)).run Try.prog w = .ok (.bool false) w := fun w => Lib.run_eql_slice_nil w 61 65 _ _ _ _ _ Try.underlying61
    go_enter Try.func34, Try.ntmps34
    go_wp2_with (at_builtin; refine wpList_append_row rfl (.tmp 5) (.tmp 6) 61 rfl w.heap.size 65 i65 _ 1 8 Try.underlying61 hi65 hz0 hz1 hz2 rfl (by decide) (.slice (some ⟨w.heap.size, 0, none⟩) 0 0) 0 [] rfl (⟨rfl, .inr ⟨w.heap.size, 0, #[], rfl, Nat.le_refl _, heap_alloc_new w _, Nat.le_refl _, by unfold maxLen; omega, rfl, rfl⟩⟩) (some a) k cap (ptrs X) rfl (by rw [ptrs_len, HK.out, Nat.mul_one]) (fun _ => ⟨_, rfl, fun j u hj => by
        rw [World.cell?_of_block (((Only.refl (fun _ => False) w).alloc _).block _ (HCL.out j u hj) (fun h => h))]
        exact HC.out j u hj⟩) (fun e => by cases e) (ptrs_one X) (by unfold maxLen; omega) (by omega) (by simp) ?_)
    intro v2 w2 hown hon hat _
    have HW := Lib.hid hown
    have HO := Lib.hid hon
    clear hown hon hat
    go_wp2_with fail
    go_ret
    refine ⟨_, rfl, ?_, ((Only.refl (fun _ => False) w).alloc _).trans HO.out (fun i hi e => by simp [Value.ownBlock] at e; omega)⟩
    simpa using HW.out
set_option maxRecDepth 100000 in
set_option maxHeartbeats 1600000 in
/-- A cut, told whole. -/
theorem cut_x (h : Pw w lo p P X vl vw) {i b : Nat} {c : Cn} (hi : X[i]? = some (b, c)) (hl64 : X.length ≤ 64) :
    Calls Try.prog 29 #[ptr p, ptr b] w fun e w' => e = .returned (.tuple #[]) ∧ ∃ v', Pw w' lo p (cutI P i) (X.eraseIdx i) v' vw ∧ Mv (foot p X vl vw) (foot p (X.eraseIdx i) v' vw) w w' := by
  have H := Lib.hid h
  have HI := Lib.hid hi
  clear h hi
  go_enter Try.func29, Try.ntmps29
  go_upto_region 1 with fail
  have hbx : Blk (w.alloc (Obj.cells #[ptr b] 65)) w.heap.size [ptr b] 65 := Blk.new w [ptr b] 65
  have hox : Only (fun _ => False) w (w.alloc (Obj.cells #[ptr b] 65)) := (Only.refl _ _).alloc _
  obtain ⟨q, hq⟩ : ∃ q, q = w.heap.size := ⟨_, rfl⟩
  rw [← hq] at hbx ⊢
  generalize w.alloc (Obj.cells #[ptr b] 65) = w1 at hbx hox ⊢
  have h1 := H.out.only hox (fun _ _ h => h)
  have c6 := h1.blk.cell 6 _ rfl
  have hpl := h1.blk.lt
  have hqv : vl.ownBlock ≠ some q := fun e => by have := (ownsRow_lt H.out.row q e).2; omega
  have H1 := Lib.hid h1
  have HD := Lib.hid (del_any h1.row (fun x hx => (h1.cn x hx).1) h1.ne HI.out hbx hqv hl64)
  have HOX := Lib.hid hox
  clear h1 hbx hox hq hqv
  go_wp2_with (go_at_call 53; (refine HD.out.mono ?_); rintro e w2 ⟨v2, rfl, hown, hat, hon⟩; obtain ⟨a2, k2, rfl, _, _, _, _⟩ := ownsRow_slice hown; have hb2 := H1.out.blk.only hon (fun e => H1.out.nl e); have d1 := hb2.cell 6 _ rfl; have f1 := hb2.free 6; have hpl2 := hb2.lt; have HW := Lib.hid hown; have HA := Lib.hid hat; have HN := Lib.hid hon; clear hown hat hon hb2)
  go_end0
  obtain ⟨g1, g2⟩ := H1.out.cutL HW.out HA.out HN.out
  exact ⟨rfl, _, g1, (Mv.of_only HOX.out).trans g2⟩

/-- What stands ahead of a round. -/
structure ExI (F0 : Nat → Prop) (w wr : World) (lo p : Nat) (P : Pp) (X0 : List (Nat × Cn)) (now j : Nat) (vc vo vw : Value) (os : List Ac) : Prop where
  pool : ∃ vl, Pw wr lo p (exP P now j) (exX P now X0 j) vl vw ∧ Mv F0 (foot p (exX P now X0 j) vl vw) w wr ∧ ∀ k, vc.ownBlock = some k → ¬ foot p (exX P now X0 j) vl vw k
  cl : wr.ownsRow w.heap.size 65 1 vc X0.length (ptrs X0)
  out : wr.ownsRow w.heap.size 27 3 vo os.length (acCells os)
section
variable {F0 : Nat → Prop} {wr w' : World} {X0 : List (Nat × Cn)} {now j : Nat} {vc vo : Value} {os : List Ac}
theorem ExI.only0 (h : ExI F0 w wr lo p P X0 now j vc vo vw os) (ho : Only (fun _ => False) wr w') : ExI F0 w w' lo p P X0 now j vc vo vw os := by
  obtain ⟨⟨vl, a, b, c⟩, h2, h3⟩ := h
  exact ⟨⟨vl, a.only ho (fun _ _ h => h), b.trans (Mv.of_only ho), c⟩, owns_only h2 ho (fun _ _ h => h), owns_only h3 ho (fun _ _ h => h)⟩
theorem ExI.stay (h : ExI F0 w wr lo p P X0 now j vc vo vw os) (hl : P.l = X0.map (·.2)) {b : Nat} {c : Cn} (hj : X0[j]? = some (b, c)) (hs : stale P now c = false) : ExI F0 w wr lo p P X0 now (j + 1) vc vo vw os := by
  have e1 := exX_stays hj hs
  have e3 : exP P now (j + 1) = exP P now j := by unfold exP; rw [exL_map hl, exL_map hl, e1]
  obtain ⟨⟨vl, a, b, c⟩, h2, h3⟩ := h
  exact ⟨⟨vl, by rw [e1, e3]; exact a, by rw [e1]; exact b, by rw [e1]; exact c⟩, h2, h3⟩
theorem ExI.app {v9 : Value} {w9 : World} {o : Obj} {a : Ac} (h : ExI F0 w wr lo p P X0 now j vc vo vw os) (hrow : w9.ownsRow w.heap.size 27 3 v9 (os.length + 1) (acCells os ++ acC a)) (hon : Only (fun k => vo.ownBlock = some k) (wr.alloc o) w9) :
    ExI F0 w w9 lo p P X0 now j vc v9 vw (os ++ [a]) := by
  obtain ⟨⟨vl, h1, hm, hn⟩, h2, h3⟩ := h
  have ho : Only (fun k => vo.ownBlock = some k) wr w9 := (((Only.refl (fun _ => False) wr).alloc o).mono (fun _ _ h => h.elim)).trans hon (fun _ _ h => h)
  refine ⟨⟨vl, h1.only ho (fun k hk e => h1.row_ne h3 (by decide) (by decide) (by decide) (by decide) k e hk), hm.then_ ho (fun k hk => (ownsRow_lt h3 k hk).1), hn⟩, owns_only h2 ho (fun k hk e => own_own_ne h3 h2 (by decide) k e hk), ?_⟩
  rw [List.length_append, List.length_singleton, acCells_append]
  simpa [acCells] using hrow
theorem ExI.cut_ {v' : Value} {vl : Value} (h1 : Pw wr lo p (exP P now j) (exX P now X0 j) vl vw) (hm : Mv F0 (foot p (exX P now X0 j) vl vw) w wr) (hn : ∀ k, vc.ownBlock = some k → ¬ foot p (exX P now X0 j) vl vw k) (h2 : wr.ownsRow w.heap.size 65 1 vc X0.length (ptrs X0)) (h3 : wr.ownsRow w.heap.size 27 3 vo os.length (acCells os))
    (hl : P.l = X0.map (·.2)) {b : Nat} {c : Cn} (hj : X0[j]? = some (b, c)) (hs : stale P now c = true)
    (hp : Pw w' lo p (cutI (exP P now j) ((X0.take j).filter (fun x => !stale P now x.2)).length) ((exX P now X0 j).eraseIdx ((X0.take j).filter (fun x => !stale P now x.2)).length) v' vw) (hm' : Mv (foot p (exX P now X0 j) vl vw) (foot p ((exX P now X0 j).eraseIdx ((X0.take j).filter (fun x => !stale P now x.2)).length) v' vw) wr w') :
    ExI F0 w w' lo p P X0 now (j + 1) vc vo vw os := by
  have e1 := (exX_goes hj hs).2
  have e3 : exP P now (j + 1) = cutI (exP P now j) ((X0.take j).filter (fun x => !stale P now x.2)).length := by
    unfold exP cutI
    rw [exL_map hl, exL_map hl, e1]
    simp only [Pp.mk.injEq, and_true, true_and]
    refine List.ext_getElem? fun k => ?_
    rw [List.getElem?_eraseIdx, List.getElem?_map, List.getElem?_map, List.getElem?_map, List.getElem?_eraseIdx]
    split <;> rfl
  refine ⟨⟨v', by rw [e1, e3]; exact hp, by rw [e1]; exact hm.trans hm', fun k hk hf => ?_⟩, owns_only h2 hm'.only hn, owns_only h3 hm'.only (h1.row_ne h3 (by decide) (by decide) (by decide) (by decide))⟩
  rw [e1] at hf
  rcases hm'.new_ k hf with hf | hf
  · exact hn k hk hf
  · have := (ownsRow_lt h2 k hk).2; omega
end
set_option maxRecDepth 100000 in
set_option maxHeartbeats 1600000 in
theorem expire_ok (h : PP F w0 w lo p P) {k : Nat} (hk : Okp P k) (hk9 : k < 9223372036854775807) (nn : Nat) (hnn : nn ≤ 4611686018427387904) :
    Calls Try.prog 15 #[ptr p, .int .i64 nn] w fun e w' => ∃ v, e = .returned (.tuple #[v, .int .i64 0]) ∧ AcP F w0 w w' lo p (serve (expireL P nn) nn).1 v (closes P nn ++ (serve (expireL P nn) nn).2) := by
  obtain ⟨i27, hi27, hz0, hz1, hz2⟩ := info_parts Try.info27
  have z27 := zero27
  have HM := Lib.hid (fun w => moment_ok nn w (by omega) (by omega))
  obtain ⟨X, vl, vw, hp, hmv⟩ := h
  have c6 := hp.blk.cell 6 _ rfl
  have hpl := hp.blk.lt
  have hxl : X.length ≤ 64 := by rw [← hp.len]; exact hk.l64
  have hcl := clone_ptrs hp.row hxl
  obtain ⟨n, hn⟩ : ∃ n, n = X.length := ⟨_, rfl⟩
  have hnl : n = P.l.length := by rw [hn, hp.len]
  rw [← hn] at hxl
  have HCL := Lib.hid hcl
  have HP := Lib.hid hp
  have HV := Lib.hid hmv
  have HK := Lib.hid hk
  have HN := Lib.hid hn
  have HNL := Lib.hid hnl
  have hst : ∀ (w2 : World) (v2 : Value), w2.ownsRow w.heap.size 65 1 v2 X.length (ptrs X) → Only (fun _ => False) w w2 → ExI (foot p X vl vw) w w2 lo p P X nn 0 v2 (.slice none 0 0) vw [] := fun w2 v2 h2 ho => by
    refine ⟨⟨vl, by rw [exP_zero, exX_zero]; exact hp.only ho (fun _ _ h => h), by rw [exX_zero]; exact (Mv.refl _ w).trans (Mv.of_only ho), fun k hk hf => ?_⟩, h2, World.ownsRow_nil _ _ _ _⟩
    rw [exX_zero] at hf
    have h1 := (hp.lt k hf).2
    have h3 := (ownsRow_lt h2 k hk).1
    omega
  have HST := Lib.hid hst
  clear hp hmv hk hcl hn hnl hst
  go_enter Try.func15, Try.ntmps15
  go_upto_region 6 with (first
    | (go_at_call 23; (refine (HM.out _).mono ?_); rintro e w' ⟨rfl, rfl⟩)
    | (go_at_call 34; (refine HCL.out.mono ?_); rintro e w2 ⟨v2, rfl, h2, ho2⟩; obtain ⟨ac, cc, rfl, hc1, hc2, _, _⟩ := ownsRow_slice h2; have HI0 := Lib.hid (HST.out w2 _ h2 ho2); clear h2 ho2))
  rw [← HN.out] at hc1 ⊢
  have HI0 := HI0
  rw [← HN.out] at HI0
  have hcm : cc ≤ 9223372036854775807 := by unfold maxLen at hc2; omega
  clear c6 hpl hc2
  go_loopw [7, 9, 25] (fun vo _ i wr => ∃ j : Nat, j ≤ n ∧ i = .int .i64 j ∧ ExI (foot p X vl vw) w wr lo p P X nn j (.slice ac n cc) vo vw (exC P nn j)) (fun _ _ i _ => n - (intOf i).toNat)
  case atStart => exact ⟨0, Nat.zero_le _, rfl, HI0.out⟩
  case round =>
    obtain ⟨j, hj, rfl, hI⟩ := hrel
    have hlo : (exC P nn j).length ≤ 64 := by have := exC_len (P := P) (now := nn) (j := j); have := HNL.out; omega
    obtain ⟨ao, bc, rfl, hb1, hb2, _, _⟩ := ownsRow_slice hI.out
    have HI := Lib.hid hI
    by_cases hlt : j < n
    · obtain ⟨vl', h1, hm, hne⟩ := hI.pool
      have hjx : j < X.length := by rw [← HN.out]; exact hlt
      obtain ⟨⟨b, c⟩, hbc⟩ : ∃ x, x = X[j] := ⟨_, rfl⟩
      have hxj : X[j]? = some (b, c) := by rw [List.getElem?_eq_getElem hjx, hbc]
      have hat := exX_at (P := P) (now := nn) hxj
      obtain ⟨_, _, hbk, _⟩ := h1.cnAt_ hat
      obtain ⟨ac', cc', e, _, _, kk⟩ := pRow_of hI.cl
      injection e with e1 e2 e3
      subst e1 e3
      obtain ⟨g, rfl, hgl, hcc⟩ := kk (by omega)
      have c0 := hcc j _ hxj
      simp only at c0
      have k1 := hbk.cell 1 _ rfl
      have hbl := hbk.lt
      have hokj := exP_ok (now := nn) (j := j) HK.out
      have htj := h1.okt hokj.t hat
      have HEND := Lib.hid (fun (w' : World) (hd : Drawn wr w') => end_any (h1.only (hd.only (fun _ => False)) (fun _ _ h => h)) hokj.n hat htj.1 htj.2.1)
      have hpl3 : P.l = X.map (·.2) := HP.out.l
      have hen : endC (exP P nn j) c = endC P c := rfl
      rw [hen] at HEND
      have hstale : stale P nn c = (decide (c.st = 2) && decide (endC P c ≤ nn)) := rfl
      have HSTA := Lib.hid hstale
      obtain ⟨en, hen2⟩ : ∃ en, en = endC P c := ⟨_, rfl⟩
      rw [← hen2] at HEND HSTA
      have HXJ := Lib.hid hxj
      have HPL := Lib.hid hpl3
      have HAT := Lib.hid hat
      have hnum := hbk.cell 0 _ rfl
      have HNUM := Lib.hid hnum
      clear hI h1 hm hne hbk kk hcc hat hokj htj hen hstale hen2 hxj hpl3 hbc hjx hnum e2
      go_upto_region 8 with fail
      by_cases hs : c.st = 2
      · have hs1 : decide (c.st = 2) = true := decide_eq_true hs
        rw [hs] at k1
        by_cases he : en ≤ nn
        · have f2 : decide ((en : Int) ≤ (nn : Int)) = true := decide_eq_true (by omega)
          have f2n : decide (en ≤ nn) = true := decide_eq_true he
          have HS := Lib.hid (show stale P nn c = true by rw [HSTA.out, hs1, f2n]; rfl)
          clear hs hs1
          go_upto_region 9 with (go_at_call 35; (refine (HEND.out _ (Drawn.refl _)).mono ?_); rintro e w3 ⟨rfl, hd⟩; have HD := Lib.hid hd; clear hd)
          have HI3 := Lib.hid (HI.out.only0 (HD.out.only (fun _ => False)))
          clear k1 hbl c0 hgl
          have k0 : w3.cell? ⟨b, 0, none⟩ = some (.int .i64 c.num) := by
            obtain ⟨vl3, h3, _, _⟩ := HI3.out.pool
            obtain ⟨_, _, hbk, _⟩ := h3.cnAt_ HAT.out
            exact hbk.cell 0 _ rfl
          have hbl : b < w3.heap.size := by
            obtain ⟨vl3, h3, _, _⟩ := HI3.out.pool
            obtain ⟨_, _, hbk, _⟩ := h3.cnAt_ HAT.out
            exact hbk.lt
          have hsz : w.heap.size ≤ w3.heap.size := by
            obtain ⟨vl3, _, hm, _⟩ := HI3.out.pool
            exact hm.only.size
          have HXS := Lib.hid (exX_goes HXJ.out HS.out)
          have HCS := Lib.hid (exC_goes HPL.out HXJ.out HS.out)
          obtain ⟨nu, hnu⟩ : ∃ nu, nu = c.num := ⟨_, rfl⟩
          rw [← hnu] at k0 HCS
          clear hnu
          obtain ⟨os, hos⟩ : ∃ os, os = exC P nn j := ⟨_, rfl⟩
          rw [← hos] at HI3 HCS hlo ⊢
          have HOS := Lib.hid hos
          clear hos
          go_upto_region 10 with (at_builtin; refine wpList_append_row rfl (.tmp 41) (.tmp 47) 32 rfl w.heap.size 27 i27 _ 3 24 Try.underlying32 hi27 hz0 hz1 hz2 rfl (by decide) (.slice ao os.length bc) os.length (acCells os) rfl (HI3.out.out.alloc _) (some ⟨w3.heap.size, 0, none⟩) 1 1 (acC ⟨5, nu, -1⟩) rfl rfl (fun _ => ⟨_, rfl, cells_new _ _ _⟩) (fun e => by cases e) (fun u hu => ac_one [⟨5, nu, -1⟩] u (by simpa [acCells] using hu)) (by unfold maxLen; omega) (by omega) (by simp only [World.size_alloc]; omega) ?_; intro v9 w9 hown9 hon9 _ _; have HI9 := Lib.hid (HI3.out.app hown9 hon9); obtain ⟨a9, k9, rfl, _, _, _, _⟩ := ownsRow_slice hown9; clear hown9 hon9)
          obtain ⟨vl9, h9, hm9, hn9⟩ := HI9.out.pool
          have HCUT := Lib.hid (cut_x h9 HXS.out.1 (by rw [← h9.len]; exact (exP_ok HK.out).l64))
          have H9 := Lib.hid h9
          have HM9 := Lib.hid hm9
          have HN9 := Lib.hid hn9
          clear h9 hm9 hn9 k0 hbl
          go_wp2_with (go_at_call 29; (refine HCUT.out.mono ?_); rintro e w10 ⟨rfl, v10, hp10, hm10⟩; have HI10 := Lib.hid (ExI.cut_ H9.out HM9.out HN9.out HI9.out.cl HI9.out.out HPL.out HXJ.out HS.out hp10 hm10); clear hp10 hm10)
          go_roundw
          case rel => exact ⟨j + 1, by omega, by go_num, by rw [HCS.out]; simpa using HI10.out⟩
          case measure => simp [intOf]; omega
        · have f2 : decide ((en : Int) ≤ (nn : Int)) = false := decide_eq_false (by omega)
          have f2n : decide (en ≤ nn) = false := decide_eq_false he
          have HS := Lib.hid (show stale P nn c = false by rw [HSTA.out, hs1, f2n]; rfl)
          clear hs hs1
          go_wp2_with (go_at_call 35; (refine (HEND.out _ (Drawn.refl _)).mono ?_); rintro e w3 ⟨rfl, hd⟩; have HD := Lib.hid hd; clear hd)
          go_roundw
          case rel => exact ⟨j + 1, by omega, by go_num, by rw [exC_stays HPL.out HXJ.out HS.out]; exact (HI.out.only0 (HD.out.only (fun _ => False))).stay HPL.out HXJ.out HS.out⟩
          case measure => simp [intOf]; omega
      · have hs1 : decide (c.st = 2) = false := decide_eq_false hs
        have f1 : ((c.st : Int) == 2) = false := beq_eq_false_iff_ne.2 (by omega)
        have HS := Lib.hid (show stale P nn c = false by rw [HSTA.out, hs1]; rfl)
        generalize c.st = s at k1 f1
        clear hs hs1
        go_wp2
        go_roundw
        case rel => exact ⟨j + 1, by omega, by go_num, by rw [exC_stays HPL.out HXJ.out HS.out]; exact HI.out.stay HPL.out HXJ.out HS.out⟩
        case measure => simp [intOf]; omega
    · have hjn : j = n := by omega
      have hpp : PP (foot p X vl vw) w wr lo p (expireL P nn) := by
        obtain ⟨vl', h1, hm, _⟩ := hI.pool
        rw [hjn, HNL.out] at h1 hm
        rw [exP_all] at h1
        exact ⟨_, _, _, h1, hm⟩
      have hok : Okp (expireL P nn) k := by rw [← exP_all]; exact exP_ok HK.out
      have hout := hI.out
      have hcs : exC P nn j = closes P nn := by rw [hjn, HNL.out, exC_all]
      rw [hcs] at hout hlo ⊢
      have HPP := Lib.hid hpp
      have HOK := Lib.hid hok
      have HOUT := Lib.hid hout
      clear hI hpp hok hout hcs
      go_wp2_with (go_at_call 30; (refine (serve_any HPP.out HOK.out hk9 nn hnn HOUT.out hlo).mono ?_); rintro e w5 ⟨v5, rfl, hs⟩; have HS := Lib.hid hs; clear hs)
      go_ret2
      exact ⟨_, rfl, AcP.of HV.out HS.out⟩
/-- What rests too long is let go. -/
theorem expire_any (h : PP F w0 w lo p P) {k : Nat} (hk : Okp P k) (hk9 : k < 9223372036854775807) (now : Int) :
    Calls Try.prog 15 #[ptr p, .int .i64 now] w fun e w' => ∃ v, e = .returned (.tuple #[v, .int .i64 (expire P now).2.2]) ∧ AcP F w0 w w' lo p (expire P now).1 v (expire P now).2.1 := by
  unfold expire
  by_cases hm : isMoment now
  · rw [if_neg (fun e => e hm)]
    obtain ⟨nn, rfl⟩ : ∃ nn : Nat, now = nn := ⟨now.toNat, by have := hm.1; omega⟩
    exact expire_ok h hk hk9 nn (by have := hm.2; omega)
  · rw [if_pos hm]
    have HM := Lib.hid (fun w => moment_bad now w (by unfold isMoment at hm; omega))
    have H := Lib.hid h
    clear h hk hm
    go_enter Try.func15, Try.ntmps15
    go_wp2_with (go_at_call 23; (refine (HM.out _).mono ?_); rintro e w' ⟨rfl, rfl⟩)
    go_ret2
    exact ⟨_, rfl, AcP.none H.out⟩
end
section
variable {w0 w : World} {p : Nat} {P : Pp} {K : Kept} {R : List Rowd}
theorem lq_drop (h : Lq w0 w p P K R) {k : Nat} (hk : Okp P k) (hk9 : k < 9223372036854775807) (now who : Int) :
    Calls Try.prog 14 #[ptr p, .int .i64 now, .int .i64 who] w fun e w' => ∃ v, e = .returned (.tuple #[v, .int .i64 (drop P now who).2.2]) ∧ Lq w0 w' p (drop P now who).1 K (acRow v (drop P now who).2.1 :: R) := by
  obtain ⟨X, vl, vw, h⟩ := h
  exact (drop_any h.pp hk hk9 now who).mono (by rintro e w' ⟨v, rfl, hP⟩; exact ⟨v, rfl, h.callA hP⟩)
theorem lq_expire (h : Lq w0 w p P K R) {k : Nat} (hk : Okp P k) (hk9 : k < 9223372036854775807) (now : Int) :
    Calls Try.prog 15 #[ptr p, .int .i64 now] w fun e w' => ∃ v, e = .returned (.tuple #[v, .int .i64 (expire P now).2.2]) ∧ Lq w0 w' p (expire P now).1 K (acRow v (expire P now).2.1 :: R) := by
  obtain ⟨X, vl, vw, h⟩ := h
  exact (expire_any h.pp hk hk9 now).mono (by rintro e w' ⟨v, rfl, hP⟩; exact ⟨v, rfl, h.callA hP⟩)
end
end Go.Proofs.Ytmpcffkandmacaa
