/- ChainOwn: the walk. -/
import Derived.Test.YtpkaaadnolmidaaOwn1
namespace Go.Proofs.Ytpkaaadnolmidaa
open Go.RowKit
set_option linter.unusedVariables false
set_option linter.unusedSimpArgs false

/-- What the last statement reads: the copy, and what was handed in. -/
def OwnS (aw : Option Addr) (cw : Nat) (ab : Option Addr) (cb : Nat) (M : List Int) (w : World) : Prop := Src w aw cw M ∧ Src w ab cb M

theorem OwnS.only {S : Nat → Prop} {w w' : World} {aw ab : Option Addr} {cw cb : Nat} {M : List Int} (h : OwnS aw cw ab cb M w) (ho : Only S w w')
    (h1 : 0 < M.length → ∀ gb off, aw = some ⟨gb, off, none⟩ → gb < w.heap.size → ¬ S gb) (h2 : 0 < M.length → ∀ gb off, ab = some ⟨gb, off, none⟩ → gb < w.heap.size → ¬ S gb) : OwnS aw cw ab cb M w' := ⟨h.1.far ho h1, h.2.far ho h2⟩

/-- Peek's answer, as the loop takes it. -/
theorem ownBytes_form {w : World} {lo : Nat} {v : Value} {L : List Int} (h : OwnBytes w lo v L) :
    ∃ ad m, v = .slice ad m m ∧ m = L.length ∧ (0 < m → ∃ gp, ad = some ⟨gp, 0, none⟩ ∧ lo ≤ gp ∧ Blk w gp (bytes L) 5) := by
  rcases h with ⟨rfl, rfl⟩ | ⟨g, rfl, h1, h2, h3⟩
  · exact ⟨none, 0, rfl, rfl, fun h => absurd h (by decide)⟩
  · exact ⟨_, _, rfl, rfl, fun _ => ⟨g, rfl, h1, h2⟩⟩

theorem own_take {w : World} {p : Nat} {g : Option Nat} {r : List Int} {fr bound high low : Nat} {L : List Int} {stop : Bool} (h : Ch w p g r fr bound high low L stop) (hL : L.length ≤ 1000) :
    Calls Try.prog 13 #[.pointer (some ⟨p, 0, none⟩), .int .i64 1000] w fun e w' => ∃ v, e = .returned v ∧ (convert 33 9 v).run Try.prog w' = .ok (.string (strOfNums L)) w' ∧ Only (fun k => k = p) w w' := by
  refine (take_any h 1000).mono ?_
  rintro e w' ⟨v, rfl, hv, fr', hc, ho⟩
  refine ⟨v, rfl, ?_, ho⟩
  rw [List.take_of_length_le (by simpa using hL)] at hv
  obtain ⟨ad, rfl, hs⟩ := src_ownBytes hv (by omega)
  exact conv_src hs

theorem set_bytes (Q : List Int) (j : Nat) (x : Int) : (bytes Q).set j (.int .u8 x) = bytes (Q.set j x) := by
  unfold bytes
  rw [List.map_set]

theorem own_put {w w1 w2 : World} {M : List Int} {a0 : Option Addr} {cap0 : Nat} (hN : NewPost w w1 1000 1000 0) (ho : Only (fun _ => False) w1 w2) (hsrc : Src w a0 cap0 M) (k : Nat) (hk : k = min M.length 1000) :
    Calls Try.prog 11 #[.pointer (some ⟨w.heap.size, 0, none⟩), .slice a0 M.length cap0] w2 fun e w' => e = .returned (.int .i64 k) ∧ PutPost w2 w' w.heap.size none 1000 1000 0 (M.take k) (putStop 1000 k (M.take k) false) := by
  have h2 : Src w2 a0 cap0 M := (hsrc.only (Below.only hN.below (fun _ => False)) (fun _ _ _ => id)).only ho (fun _ _ _ => id)
  have := put_any (hN.ch.only ho (fun _ _ => id)) a0 cap0 M h2 (fun h0 gb off e hf => ?_) k (by simpa using hk)
  · rw [List.nil_append] at this
    exact this
  · obtain ⟨gb', off', e', hl, _⟩ := hsrc.at_ h0
    rw [e] at e'
    cases e'
    rcases hf with hf | hf
    · omega
    · cases hf

theorem own_cells {S : Nat → Prop} {w w' : World} {lo : Nat} {ao : Option Addr} {cap : Nat} {M : List Int} (h : Own w lo (.slice ao M.length cap) M) (ho : Only S w w') (hd : ∀ k, lo ≤ k → k < w.heap.size → ¬ S k) : Src w' ao cap M := by
  refine (src_own h).far ho (fun h0 gb off e hl => hd gb ?_ hl)
  obtain ⟨a2, c2, e2, h1, h2, h3, h4⟩ := ownsRow_slice h
  cases e2
  obtain ⟨g, e3, hg⟩ := h4 h0
  rw [e] at e3
  cases e3
  exact (ownsRow_lt h _ hg).1

theorem own_at {w wa wb wc wd we : World} {aw a0 : Option Addr} {cw cap0 : Nat} {M L : List Int} {g : Option Nat} {r : List Int} {fr : Nat} {stop : Bool} (hN : NewPost w wa 1000 1000 0) (hob : Only (fun _ => False) wa wb)
    (hown : Own wb wa.heap.size (.slice aw M.length cw) M) (hs : Src w a0 cap0 M) (hoc : Only (foot w.heap.size none) wb wc) (hpo : Only (fun _ => False) wc wd) (ho : Only (fun b => wc.heap.size ≤ b) wd we)
    (hcc : Ch wc w.heap.size g r fr 1000 1000 0 L stop) (hg : g = none ∨ ∃ b, g = some b ∧ wb.heap.size ≤ b) : OwnS aw cw a0 cap0 M we ∧ Ch we w.heap.size g r fr 1000 1000 0 L stop ∧ Only (fun b => w.heap.size ≤ b) w we ∧ (∀ k, foot w.heap.size g k → k = w.heap.size ∨ wb.heap.size ≤ k) ∧ w.heap.size < wb.heap.size ∧ (0 < M.length → ∀ gb off, aw = some ⟨gb, off, none⟩ → wa.heap.size ≤ gb ∧ gb < wb.heap.size) := by
  have s1 := hN.size
  have s2 := hob.size
  have s3 := hoc.size
  have s4 := hpo.size
  have h1 : Only (fun b => b = w.heap.size ∨ wb.heap.size ≤ b) wb we := by
    refine ((hoc.trans hpo (fun _ _ h => h.elim)).mono (T := fun b => b = w.heap.size ∨ wb.heap.size ≤ b) (fun i _ h => ?_)).trans ho (fun i _ h => .inr (by omega))
    rcases h with h | h
    · exact .inl h
    · cases h
  have h2 : Only (fun b => w.heap.size ≤ b) w we := by
    refine ((Below.only hN.below (fun b => w.heap.size ≤ b)).trans hob (fun _ _ h => h.elim)).trans h1 (fun i _ h => ?_)
    rcases h with h | h <;> omega
  have hin : 0 < M.length → ∀ gb off, aw = some ⟨gb, off, none⟩ → wa.heap.size ≤ gb ∧ gb < wb.heap.size := fun h0 gb off e => by
    obtain ⟨a2, c2, e2, _, _, _, h4⟩ := ownsRow_slice hown
    cases e2
    obtain ⟨g, e3, hg⟩ := h4 h0
    rw [e] at e3
    cases e3
    exact ownsRow_lt hown _ hg
  refine ⟨⟨own_cells hown h1 (fun k hk hk2 h => by rcases h with h | h <;> omega), hs.far h2 (fun _ gb _ _ hl h => by omega)⟩, (hcc.only hpo (fun _ _ => id)).only ho (fun k hk h => by have := hcc.lt k hk; omega), h2, fun k hk => ?_, by omega, hin⟩
  rcases hk with hk | hk
  · exact .inl hk
  · rcases hg with rfl | ⟨b, rfl, hb⟩
    · cases hk
    · cases hk; exact .inr hb

theorem src_app {w : World} {ad : Option Addr} {cap : Nat} {M : List Int} (h : Src w ad cap M) (h0 : 0 < M.length) : ∃ a, ad = some a ∧ ∀ j u, (bytes M)[j]? = some u → w.cell? (a.add j) = some u := by
  obtain ⟨gb, off, rfl, _, hc⟩ := h.at_ h0
  refine ⟨_, rfl, fun j u hu => ?_⟩
  have hj : j < M.length := by
    have := (List.getElem?_eq_some_iff.1 hu).1
    rwa [bytes_length] at this
  rw [Go.WideShapes.add_plain, hc j hj, ← hu, bytes_get M j hj]

set_option maxRecDepth 100000 in
set_option maxHeartbeats 3200000 in
theorem own_walk (a0 : Option Addr) (len0 cap0 : Nat) (z0 : List Int) (a1 : Int) (w : World) (w0 : IsRow .u8 w a0 len0 cap0 z0) (hreach : cap0 ≤ 140737488351232) (w1 : (Lit.int .i64 a1).wf = true) :
    Calls Try.prog 5 #[.slice a0 len0 cap0, .int .i64 a1] w fun e w' => e = .returned (.bool true) ∧ Below w.heap.size w w' := by
  obtain ⟨i5, hi, hz0, hz1, hz2⟩ := info_parts Try.info5
  obtain ⟨hsrc, hlen⟩ := src_of_row w0
  obtain ⟨M, hM⟩ : ∃ M, M = z0.take len0 := ⟨_, rfl⟩
  rw [← hM] at hsrc hlen
  subst hlen
  have hle := hsrc.le
  obtain ⟨k, hk⟩ : ∃ k, k = min M.length 1000 := ⟨_, rfl⟩
  have hkM : (M.take k).length = k := by rw [List.length_take]; omega
  have hk1 : decide ((k : Int) ≤ (M.length : Int)) = true := decide_eq_true (by omega)
  have hk2 : k ≤ M.length := by omega
  have hnil : a0 = none → cap0 = 0 := by
    intro e
    rcases w0 with ⟨_, _, h, _⟩ | ⟨x, h, _⟩
    · exact h
    · rw [e] at h; cases h
  clear hM w0
  have HK := Lib.hid hk
  have HKM := Lib.hid hkM
  have HS := Lib.hid hsrc
  have HNIL := Lib.hid hnil
  clear hk hkM hsrc hnil
  go_enter Try.func5, Try.ntmps5
  go_wp2_with (first
    | (go_at_call 8; (with_reducible refine (new_at w 1000 1000 0 1000 1000 0 rfl rfl rfl (by decide)).mono ?_); rintro e wa ⟨rfl, hN⟩)
    | (at_builtin; refine wpList_append_row rfl (.tmp 21) (.tmp 22) 33 rfl wa.heap.size 5 i5 (.int .u8 0) 1 1 Try.underlying33 hi hz0 hz1 hz2 rfl (by decide) _ 0 [] rfl (World.ownsRow_nil _ _ _ _) a0 M.length cap0 (bytes M) rfl (by rw [bytes_length]; simp) (fun h0 => src_app (HS.out.far (Below.only hN.below (fun _ => False)) (fun _ _ _ _ _ => id)) h0) HNIL.out (bytes_one _) (by unfold maxLen; omega) (by omega) (by omega) ?_))
  intro va wb hown2 hon2 h4 h5
  clear h4 h5
  obtain ⟨aw, cw, rfl, hw1, hw2, hw3, hw4⟩ := ownsRow_slice hown2
  have hob : Only (fun _ => False) wa wb := hon2.mono (fun i _ h => by cases h)
  have hcb : Ch wb w.heap.size none [] 0 1000 1000 0 [] false := hN.ch.only hob (fun _ _ => id)
  have hszb := hob.size
  have hsza := hN.size
  have HNP := Lib.hid hN
  have HOB := Lib.hid hob
  have HOWN := Lib.hid hown2
  have HCB := Lib.hid hcb
  have HW3 := Lib.hid hw3
  have HW4 := Lib.hid hw4
  clear hN hob hon2 hown2 hcb hw3 hw4
  go_wp2_with (first
    | (go_at_call 11; (with_reducible refine (own_put HNP.out HOB.out HS.out k HK.out).mono ?_); rintro e wc ⟨rfl, hP⟩; obtain ⟨g', r', fr', hcc, hoc, hgc⟩ := hP; have HCC := Lib.hid hcc; have HOC := Lib.hid hoc; have HGC := Lib.hid hgc; clear hcc hoc hgc)
    | (go_at_call 16; (with_reducible refine (peek_any HCC.out a1).mono ?_); rintro e wd ⟨vp, rfl, hpk⟩; obtain ⟨ap, m, rfl, hm, hpb⟩ := ownBytes_form hpk.own; have HPB := Lib.hid hpb; have HPO := Lib.hid hpk.only; have HM := Lib.hid hm; clear hpb hpk hm))
  have hszc := HOC.out.size
  have hszd := HPO.out.size
  have hmk : m ≤ M.length := by have := HM.out; simp only [List.length_take] at this; omega
  go_loopw [32] (fun i wr => ∃ (j : Nat), j ≤ m ∧ i = .int .i64 j ∧ (0 < m → ∃ gp, ap = some ⟨gp, 0, none⟩ ∧ wc.heap.size ≤ gp ∧ ∃ Q : List Int, Q.length = m ∧ Blk wr gp (bytes Q) 5) ∧ Only (fun b => wc.heap.size ≤ b) wd wr) (fun i _ => m - (intOf i).toNat)
  case atStart => exact ⟨0, Nat.zero_le _, rfl, fun h0 => (by obtain ⟨gp, e, h1, h2⟩ := HPB.out h0; exact ⟨gp, e, h1, _, HM.out.symm, h2⟩), Only.refl _ _⟩
  case round =>
    obtain ⟨j, hj, rfl, hq, ho⟩ := hrel
    have HO := Lib.hid ho
    clear ho
    by_cases hlt : j < m
    · obtain ⟨gp, rfl, hgp, Q, hQ, hb⟩ := hq (by omega)
      have cq := (hb.cellAt j).trans (bytes_get Q j (by omega))
      have fq := hb.free j
      obtain ⟨y, hy⟩ : ∃ y, y = Q.getD j 0 := ⟨_, rfl⟩
      rw [← hy] at cq
      have HB := Lib.hid hb
      have HQ := Lib.hid hQ
      clear hy hq hb hQ
      go_wp2
      go_roundw
      case rel => exact ⟨j + 1, by omega, by go_num, fun _ => ⟨gp, rfl, hgp, Q.set j (IntKind.u8.wrap (y + 1)), by rw [List.length_set]; exact HQ.out, by rw [← set_bytes]; exact HB.out.set j _⟩, HO.out.setCell (p := ⟨gp, j, none⟩) (fun _ => hgp) _⟩
      case measure => simp [intOf]; omega
    · clear hq
      obtain ⟨hS, hC, hOw, hft, hsz, hin⟩ := own_at HNP.out HOB.out HOWN.out HS.out HOC.out HPO.out HO.out HCC.out HGC.out
      obtain ⟨s1, hs1⟩ : ∃ s, s = strOfNums M := ⟨_, rfl⟩
      obtain ⟨s2, hs2⟩ : ∃ s, s = strOfNums (M.take k) := ⟨_, rfl⟩
      have hc1 : ∀ w', OwnS aw cw a0 cap0 M w' → (convert 33 9 (.slice aw M.length cw)).run Try.prog w' = .ok (.string s1) w' := fun w' h => by rw [hs1]; exact conv_src h.1
      have hc2 : ∀ w', OwnS aw cw a0 cap0 M w' → (convert 33 9 (.slice a0 M.length cap0)).run Try.prog w' = .ok (.string s1) w' := fun w' h => by rw [hs1]; exact conv_src h.2
      have hc3 : ∀ w', OwnS aw cw a0 cap0 M w' → (convert 33 9 (.slice aw k cw)).run Try.prog w' = .ok (.string s2) w' := fun w' h => by
        have := conv_src (src_take h.1 k)
        rw [HKM.out] at this
        rw [hs2]
        exact this
      have hmap : ∀ a : Option Addr, a.map (fun x => x.add 0) = a := fun a => by cases a <;> simp [Addr.add]
      have e1 : (s1.toList == s1.toList) = true := beq_iff_eq.2 rfl
      have e2 : (s2.toList == s2.toList) = true := beq_iff_eq.2 rfl
      have hkc : k ≤ cw := by omega
      have hS0 := hS.only (Only.drew (Only.refl (fun _ => False) _)) (fun _ _ _ _ _ => id) (fun _ _ _ _ _ => id)
      have hC0 := hC.only (Only.drew (Only.refl (fun _ => False) _)) (fun _ _ => id)
      have HHS := Lib.hid hS0
      have HHC := Lib.hid hC0
      have HOW := Lib.hid hOw
      have HF := Lib.hid hft
      have HI := Lib.hid hin
      have HS1 := Lib.hid hs1
      have HS2 := Lib.hid hs2
      clear hs1 hs2 hS hC hOw hft hin hC0
      go_wp2_with fail
      refine wp_region_noPanic ?_
      refine wp_region_held_drew (S := fun w' => OwnS aw cw a0 cap0 M w') (by kernel_rfl) (by assumption) (fun hHeld => ?_)
      refine wpAnyH_take (i := 0) (v := ?_) rfl (by kernel_rfl) (by kernel_rfl) (by kernel_rfl) (fun _ _ _ h => h) (Or.inl ⟨by rfl, ?_⟩) (by assumption) ?_
      rotate_left 1
      · (intro w hSw; (try dsimp only at hSw); go_simp) <;> with_reducible rfl
      try simp only [Act.put, List.setIfInBounds_toArray, List.set_cons_zero, List.set_cons_succ, List.getElem_toArray, List.getElem_cons_zero, List.getElem_cons_succ]
      refine wpAnyH_take (i := 1) (v := ?_) rfl (by kernel_rfl) (by kernel_rfl) (by kernel_rfl) (fun _ _ _ h => h) (Or.inl ⟨by rfl, ?_⟩) (by assumption) ?_
      rotate_left 1
      · (intro w hSw; (try dsimp only at hSw); go_simp) <;> with_reducible rfl
      try simp only [Act.put, List.setIfInBounds_toArray, List.set_cons_zero, List.set_cons_succ, List.getElem_toArray, List.getElem_cons_zero, List.getElem_cons_succ]
      refine wpAnyH_take (i := 2) (v := ?_) rfl (by kernel_rfl) (by kernel_rfl) (by kernel_rfl) (fun _ _ _ h => h) (Or.inl ⟨by rfl, ?_⟩) (by assumption) ?_
      rotate_left 1
      · (intro w hSw; (try dsimp only at hSw); go_simp) <;> with_reducible rfl
      try simp only [Act.put, List.setIfInBounds_toArray, List.set_cons_zero, List.set_cons_succ, List.getElem_toArray, List.getElem_cons_zero, List.getElem_cons_succ]
      refine wpAnyH_take (i := 3) (v := ?_) rfl (by kernel_rfl) (by kernel_rfl) (by kernel_rfl) (fun _ _ _ h => h) (Or.inl ⟨by rfl, ?_⟩) (by assumption) ?_
      rotate_left 1
      · (intro w hSw; (try dsimp only at hSw); go_simp) <;> with_reducible rfl
      try simp only [Act.put, List.setIfInBounds_toArray, List.set_cons_zero, List.set_cons_succ, List.getElem_toArray, List.getElem_cons_zero, List.getElem_cons_succ]
      refine wpAnyH_take (i := 4) (v := ?_) rfl (by kernel_rfl) (by kernel_rfl) (by kernel_rfl) (fun _ _ _ h => h) (Or.inl ⟨by rfl, ?_⟩) (by assumption) ?_
      rotate_left 1
      · (intro w hSw; (try dsimp only at hSw); go_simp) <;> with_reducible rfl
      try simp only [Act.put, List.setIfInBounds_toArray, List.set_cons_zero, List.set_cons_succ, List.getElem_toArray, List.getElem_cons_zero, List.getElem_cons_succ]
      refine wpAnyH_take (i := 5) (v := ?_) rfl (by kernel_rfl) (by kernel_rfl) (by kernel_rfl) (fun _ _ _ h => h) (Or.inl ⟨by rfl, ?_⟩) (by assumption) ?_
      rotate_left 1
      · (intro w hSw; (try dsimp only at hSw); go_simp) <;> with_reducible rfl
      try simp only [Act.put, List.setIfInBounds_toArray, List.set_cons_zero, List.set_cons_succ, List.getElem_toArray, List.getElem_cons_zero, List.getElem_cons_succ]
      refine wpAnyH_take (i := 6) (v := ?_) rfl (by kernel_rfl) (by kernel_rfl) (by kernel_rfl) (fun _ _ _ h => h) (Or.inl ⟨by rfl, ?_⟩) (by assumption) ?_
      rotate_left 1
      · (intro w hSw; (try dsimp only at hSw); go_simp) <;> with_reducible rfl
      try simp only [Act.put, List.setIfInBounds_toArray, List.set_cons_zero, List.set_cons_succ, List.getElem_toArray, List.getElem_cons_zero, List.getElem_cons_succ]
      refine wpAnyH_take (i := 7) (v := ?_) rfl (by kernel_rfl) (by kernel_rfl) (by kernel_rfl) (fun _ _ _ h => h) (Or.inl ⟨by rfl, ?_⟩) (by assumption) ?_
      rotate_left 1
      · (intro w hSw; (try dsimp only at hSw); go_simp) <;> with_reducible rfl
      try simp only [Act.put, List.setIfInBounds_toArray, List.set_cons_zero, List.set_cons_succ, List.getElem_toArray, List.getElem_cons_zero, List.getElem_cons_succ]
      refine wpAnyH_take (i := 8) (v := ?_) rfl (by kernel_rfl) (by kernel_rfl) (by kernel_rfl) (fun _ _ _ h => h) (Or.inl ⟨by rfl, ?_⟩) (by assumption) ?_
      rotate_left 1
      · (intro w hSw; (try dsimp only at hSw); go_simp) <;> with_reducible rfl
      try simp only [Act.put, List.setIfInBounds_toArray, List.set_cons_zero, List.set_cons_succ, List.getElem_toArray, List.getElem_cons_zero, List.getElem_cons_succ]
      refine wpAnyH_take (i := 9) (v := ?_) rfl (by kernel_rfl) (by kernel_rfl) (by kernel_rfl) (fun _ _ _ h => h) (Or.inl ⟨by rfl, ?_⟩) (by assumption) ?_
      rotate_left 1
      · (intro w hSw; (try dsimp only at hSw); go_simp) <;> with_reducible rfl
      try simp only [Act.put, List.setIfInBounds_toArray, List.set_cons_zero, List.set_cons_succ, List.getElem_toArray, List.getElem_cons_zero, List.getElem_cons_succ]
      refine wpAnyH_take (i := 10) (v := ?_) rfl (by kernel_rfl) (by kernel_rfl) (by kernel_rfl) (fun _ _ _ h => h) (Or.inl ⟨by rfl, ?_⟩) (by assumption) ?_
      rotate_left 1
      · (intro w hSw; (try dsimp only at hSw); go_simp) <;> with_reducible rfl
      try simp only [Act.put, List.setIfInBounds_toArray, List.set_cons_zero, List.set_cons_succ, List.getElem_toArray, List.getElem_cons_zero, List.getElem_cons_succ]
      refine wpAnyH_take (i := 11) (v := ?_) rfl (by kernel_rfl) (by kernel_rfl) (by kernel_rfl) (fun _ _ _ h => h) (Or.inl ⟨by rfl, ?_⟩) (by assumption) ?_
      rotate_left 1
      · (intro w hSw; (try dsimp only at hSw); go_simp) <;> with_reducible rfl
      try simp only [Act.put, List.setIfInBounds_toArray, List.set_cons_zero, List.set_cons_succ, List.getElem_toArray, List.getElem_cons_zero, List.getElem_cons_succ]
      refine wpAnyH_take (i := 12) (v := ?_) rfl (by kernel_rfl) (by kernel_rfl) (by kernel_rfl) (fun _ _ _ h => h) (Or.inl ⟨by rfl, ?_⟩) (by assumption) ?_
      rotate_left 1
      · (intro w hSw; (try dsimp only at hSw); go_simp) <;> with_reducible rfl
      try simp only [Act.put, List.setIfInBounds_toArray, List.set_cons_zero, List.set_cons_succ, List.getElem_toArray, List.getElem_cons_zero, List.getElem_cons_succ]
      refine wpAnyH_take (i := 15) (v := ?_) rfl (by kernel_rfl) (by kernel_rfl) (by kernel_rfl) (fun _ _ _ h => h) (Or.inl ⟨by rfl, ?_⟩) (by assumption) ?_
      rotate_left 1
      · (intro w hSw; (try dsimp only at hSw); go_simp) <;> with_reducible rfl
      try simp only [Act.put, List.setIfInBounds_toArray, List.set_cons_zero, List.set_cons_succ, List.getElem_toArray, List.getElem_cons_zero, List.getElem_cons_succ]
      refine wpAnyH_take (i := 16) (v := ?_) rfl (by kernel_rfl) (by kernel_rfl) (by kernel_rfl) (fun _ _ _ h => h) (Or.inl ⟨by rfl, ?_⟩) (by assumption) ?_
      rotate_left 1
      · (intro w hSw; (try dsimp only at hSw); go_simp) <;> with_reducible rfl
      try simp only [Act.put, List.setIfInBounds_toArray, List.set_cons_zero, List.set_cons_succ, List.getElem_toArray, List.getElem_cons_zero, List.getElem_cons_succ]
      refine wpAnyH_take (i := 17) (v := ?_) rfl (by kernel_rfl) (by kernel_rfl) (by kernel_rfl) (fun _ _ _ h => h) (Or.inl ⟨by rfl, ?_⟩) (by assumption) ?_
      rotate_left 1
      · (intro w hSw; (try dsimp only at hSw); go_simp) <;> with_reducible rfl
      try simp only [Act.put, List.setIfInBounds_toArray, List.set_cons_zero, List.set_cons_succ, List.getElem_toArray, List.getElem_cons_zero, List.getElem_cons_succ]
      refine wpAnyH_take (i := 18) (v := ?_) rfl (by kernel_rfl) (by kernel_rfl) (by kernel_rfl) (fun _ _ _ h => h) (Or.inl ⟨by rfl, ?_⟩) (by assumption) ?_
      rotate_left 1
      · (intro w hSw; (try dsimp only at hSw); go_simp) <;> with_reducible rfl
      try simp only [Act.put, List.setIfInBounds_toArray, List.set_cons_zero, List.set_cons_succ, List.getElem_toArray, List.getElem_cons_zero, List.getElem_cons_succ]
      refine wpAnyH_ready (rs := [13]) (by kernel_rfl) (by simp) ?_
      refine AllReadyH.cons rfl (fun K hK => ?_) AllReadyH.nil
      go_simp
      (go_at_call 13; (with_reducible refine (own_take HHC.out (by rw [HKM.out]; have := HK.out; omega)).mono ?_); rintro e wt ⟨vt, rfl, hcv, hot⟩; rw [← HS2.out] at hcv; have hS6 := HHS.out.only hot (fun h0 gb off e _ h => by have := HI.out h0 gb off e; omega) (fun h0 gb off e _ h => by obtain ⟨gb', off', e', hl, _⟩ := HS.out.at_ h0; rw [e] at e'; cases e'; omega); have HOT := Lib.hid hot; clear hot)
      go_wp2_with fail
      refine hK.out _ _ (hS6) (fun hHeld => ?_)
      clear hK K
      try simp only [Act.put, List.setIfInBounds_toArray, List.set_cons_zero, List.set_cons_succ, List.getElem_toArray, List.getElem_cons_zero, List.getElem_cons_succ]
      refine wpAnyH_ready (rs := [14]) (by kernel_rfl) (by simp) ?_
      refine AllReadyH.cons rfl (fun K hK => ?_) AllReadyH.nil
      go_simp
      refine hK.out _ _ (hS6) (fun hHeld => ?_)
      clear hK K
      try simp only [Act.put, List.setIfInBounds_toArray, List.set_cons_zero, List.set_cons_succ, List.getElem_toArray, List.getElem_cons_zero, List.getElem_cons_succ]
      refine wpAnyH_take (i := 19) (v := ?_) rfl (by kernel_rfl) (by kernel_rfl) (by kernel_rfl) (fun _ _ _ h => h) (Or.inl ⟨by rfl, ?_⟩) (by assumption) ?_
      rotate_left 1
      · (intro w hSw; (try dsimp only at hSw); go_simp) <;> with_reducible rfl
      try simp only [Act.put, List.setIfInBounds_toArray, List.set_cons_zero, List.set_cons_succ, List.getElem_toArray, List.getElem_cons_zero, List.getElem_cons_succ]
      refine wpAnyH_take (i := 20) (v := ?_) rfl (by kernel_rfl) (by kernel_rfl) (by kernel_rfl) (fun _ _ _ h => h) (Or.inl ⟨by rfl, ?_⟩) (by assumption) ?_
      rotate_left 1
      · (intro w hSw; (try dsimp only at hSw); go_simp) <;> with_reducible rfl
      try simp only [Act.put, List.setIfInBounds_toArray, List.set_cons_zero, List.set_cons_succ, List.getElem_toArray, List.getElem_cons_zero, List.getElem_cons_succ]
      refine wpAnyH_take (i := 21) (v := ?_) rfl (by kernel_rfl) (by kernel_rfl) (by kernel_rfl) (fun _ _ _ h => h) (Or.inl ⟨by rfl, ?_⟩) (by assumption) ?_
      rotate_left 1
      · (intro w hSw; (try dsimp only at hSw); go_simp) <;> with_reducible rfl
      try simp only [Act.put, List.setIfInBounds_toArray, List.set_cons_zero, List.set_cons_succ, List.getElem_toArray, List.getElem_cons_zero, List.getElem_cons_succ]
      refine wpAnyH_ready (rs := [22]) (by kernel_rfl) (by simp) ?_
      refine AllReadyH.cons rfl (fun K hK => ?_) AllReadyH.nil
      go_simp
      (go_at_call 10; (with_reducible refine (speaks_ok _).mono ?_); rintro e wz ⟨rfl, hbz⟩; have hS7 := hS6.only (Below.only hbz (fun _ => False)) (fun _ _ _ _ _ => id) (fun _ _ _ _ _ => id); have HBZ := Lib.hid hbz; clear hbz)
      go_wp2_with fail
      refine hK.out _ _ (hS7) (fun hHeld => ?_)
      clear hK K
      try simp only [Act.put, List.setIfInBounds_toArray, List.set_cons_zero, List.set_cons_succ, List.getElem_toArray, List.getElem_cons_zero, List.getElem_cons_succ]
      refine wpAnyH_take (i := 23) (v := ?_) rfl (by kernel_rfl) (by kernel_rfl) (by kernel_rfl) (fun _ _ _ h => h) (Or.inl ⟨by rfl, ?_⟩) (by assumption) ?_
      rotate_left 1
      · (intro w hSw; (try dsimp only at hSw); go_simp) <;> with_reducible rfl
      try simp only [Act.put, List.setIfInBounds_toArray, List.set_cons_zero, List.set_cons_succ, List.getElem_toArray, List.getElem_cons_zero, List.getElem_cons_succ]
      refine wpAnyH_take (i := 24) (v := ?_) rfl (by kernel_rfl) (by kernel_rfl) (by kernel_rfl) (fun _ _ _ h => h) (Or.inl ⟨by rfl, ?_⟩) (by assumption) ?_
      rotate_left 1
      · (intro w hSw; (try dsimp only at hSw); go_simp) <;> with_reducible rfl
      try simp only [Act.put, List.setIfInBounds_toArray, List.set_cons_zero, List.set_cons_succ, List.getElem_toArray, List.getElem_cons_zero, List.getElem_cons_succ]
      refine wpAnyH_done (by kernel_rfl) ?_ _
      refine NoPanic.normal ?_
      all_goals
        go_wp2_with fail
        go_ret
        have h1 := (HOW.out.drew).trans HOT.out (fun i _ h => by omega)
        exact ⟨rfl, below_only (h1.below (Nat.le_refl _) (fun _ h => h)) (Below.only HBZ.out (fun _ => False)) h1.size (fun _ h => h.elim)⟩
end Go.Proofs.Ytpkaaadnolmidaa
