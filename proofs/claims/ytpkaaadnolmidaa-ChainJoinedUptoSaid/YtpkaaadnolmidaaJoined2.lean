/- ChainJoined: the walk. -/
import Derived.Test.YtpkaaadnolmidaaJoined1
namespace Go.Proofs.Ytpkaaadnolmidaa
open Go.RowKit
set_option linter.unusedVariables false
set_option linter.unusedSimpArgs false

/-- What the last statement leans on: the first chain, the marks, and all that stood there at first. -/
structure JC (w0 : World) (p : Nat) (g : Option Nat) (r : List Int) (fr bound high low : Nat) (L : List Int) (st : Bool) (w : World) : Prop where
  ch : Ch w p g r fr bound high low L st
  box : Blk w w0.heap.size [.int .i64 bound, .int .i64 high, .int .i64 low] 23
  own : Only (fun k => w0.heap.size ≤ k) w0 w

theorem JC.only {S : Nat → Prop} {w0 w w' : World} {p : Nat} {g : Option Nat} {r : List Int} {fr bound high low : Nat} {L : List Int} {st : Bool} (h : JC w0 p g r fr bound high low L st w) (ho : Only S w w')
    (h1 : ∀ k, foot p g k → ¬ S k) (h2 : ∀ k, S k → w0.heap.size < k) : JC w0 p g r fr bound high low L st w' :=
  ⟨h.ch.only ho h1, h.box.only ho (fun hs => by have := h2 _ hs; omega), h.own.trans ho (fun i _ hi => by have := h2 i hi; omega)⟩
theorem JC.far {w0 w w' : World} {p : Nat} {g : Option Nat} {r : List Int} {fr bound high low : Nat} {L : List Int} {st : Bool} (h : JC w0 p g r fr bound high low L st w) (ho : Only (fun _ => False) w w') : JC w0 p g r fr bound high low L st w' :=
  h.only ho (fun _ _ => id) (fun _ h => h.elim)

def JPut (w0 w : World) (p : Nat) (gc : Option Nat) (rc : List Int) (fc bound high low : Nat) (L : List Int) (st : Bool) (pd : Nat) (M : List Int) (k : Nat) : Prop :=
  ∃ gd rd fd, JC w0 p gc rc fc bound high low L st w ∧ Ch w pd gd rd fd bound high low (M.take k) (putStop high k (M.take k) false)

theorem joined_put {w wf : World} {p : Nat} {gc : Option Nat} {rc : List Int} {fc bound high low : Nat} {L : List Int} {st : Bool} {pd : Nat} {ad : Option Addr} {n cd k : Nat} {M : List Int}
    (hJ : JC w p gc rc fc bound high low L st wf) (hd : Ch wf pd none [] 0 bound high low [] false) (hs : Src wf ad cd M) (hk : n = M.length ∧ k = min M.length bound)
    (hne : 0 < M.length → ∀ gb off, ad = some ⟨gb, off, none⟩ → gb ≠ pd) (hp : ¬ foot p gc pd) (hpd : w.heap.size < pd) :
    Calls Try.prog 11 #[.pointer (some ⟨pd, 0, none⟩), .slice ad n cd] wf fun e w' => e = .returned (.int .i64 k) ∧ JPut w w' p gc rc fc bound high low L st pd M k := by
  obtain ⟨rfl, hk⟩ := hk
  have := put_any hd ad cd M hs (fun h0 gb off e hf => by
    rcases hf with hf | hf
    · exact hne h0 gb off e hf
    · cases hf) k (by simpa using hk)
  refine this.mono ?_
  rintro e w' ⟨rfl, g', r', fr', hc, ho, _⟩
  rw [List.nil_append] at hc
  refine ⟨rfl, g', r', fr', hJ.only ho (fun i hi hf => ?_) (fun i hi => ?_), hc⟩
  · rcases hf with hf | hf
    · subst hf; exact hp hi
    · cases hf
  · rcases hi with hi | hi
    · omega
    · cases hi

theorem bytes_append (A B : List Int) : bytes A ++ bytes B = bytes (A ++ B) := by
  unfold bytes
  rw [List.map_append]

theorem joined_src {w wx wa wb : World} {bound high low : Nat} {ad : Option Addr} {cap : Nat} {M : List Int} (h : Src w ad cap M) (hox : Only (fun _ => False) w wx) (hNa : NewPost wx wa bound high low) (hNb : NewPost wa wb bound high low) : Src wb ad cap M :=
  ((h.only hox (fun _ _ _ => id)).only (Below.only hNa.below (fun _ => False)) (fun _ _ _ => id)).only (Below.only hNb.below (fun _ => False)) (fun _ _ _ => id)

/-- Where the two chains stand ahead of the last statement. -/
theorem joined_at {w wx wa wb wd we wf : World} {A B : List Int} {bound high low k1 k2 k : Nat} {ad : Option Addr} {cd : Nat} {gc g2 : Option Nat} {rc r2 : List Int} {fc f2 : Nat}
    (hx : Blk wx w.heap.size [.int .i64 bound, .int .i64 high, .int .i64 low] 23) (hox : Only (fun _ => False) w wx) (hxs : wx.heap.size = w.heap.size + 1)
    (hNa : NewPost wx wa bound high low) (hNb : NewPost wa wb bound high low) (hod : Only (fun b => wb.heap.size ≤ b) wb wd) (hown : Own wd wb.heap.size (.slice ad (A ++ B).length cd) (A ++ B))
    (hoe : Only (foot wx.heap.size none) wd we) (hce : Ch we wx.heap.size gc rc fc bound high low (A.take k1) (putStop high k1 (A.take k1) false)) (hgc : gc = none ∨ ∃ b, gc = some b ∧ wd.heap.size ≤ b)
    (hof : Only (foot wx.heap.size gc) we wf) (hcf : Ch wf wx.heap.size g2 r2 f2 bound high low (A.take k1 ++ B.take k2) (putStop high k2 (A.take k1 ++ B.take k2) (putStop high k1 (A.take k1) false))) (hg2 : g2 = gc ∨ ∃ b, g2 = some b ∧ we.heap.size ≤ b)
    (h1 : k1 = min A.length bound) (h2 : k2 = min B.length (bound - k1)) (hk : k = min (A ++ B).length bound) :
    JC w wx.heap.size g2 r2 f2 bound high low ((A ++ B).take k) (putStop high k ((A ++ B).take k) false) wf ∧ Ch wf wa.heap.size none [] 0 bound high low [] false ∧ Src wf ad cd (A ++ B) ∧
      (0 < (A ++ B).length → ∀ gb off, ad = some ⟨gb, off, none⟩ → gb ≠ wa.heap.size) ∧ ¬ foot wx.heap.size g2 wa.heap.size ∧ w.heap.size < wa.heap.size ∧ k1 + k2 = k := by
  have s1 := hNa.size
  have s2 := hNb.size
  have s3 := hod.size
  have s4 := hoe.size
  have s5 := hof.size
  obtain ⟨e1, e2, e3⟩ := joined_pure (high := high) (k := k) h1 h2 (by rw [List.length_append] at hk; exact hk)
  rw [e3, e2] at hcf
  have hq : Only (fun b => b = wx.heap.size ∨ wb.heap.size ≤ b) wb wf := by
    refine ((hod.mono (T := fun b => b = wx.heap.size ∨ wb.heap.size ≤ b) (fun i _ h => .inr h)).trans hoe (fun i _ h => ?_)).trans hof (fun i _ h => ?_)
    · rcases h with h | h
      · exact .inl h
      · cases h
    · rcases h with h | h
      · exact .inl h
      · rcases hgc with hg | ⟨b, hg, hb⟩
        · rw [hg] at h; cases h
        · rw [hg] at h; cases h; exact .inr (by omega)
  have hin : 0 < (A ++ B).length → ∀ gb off, ad = some ⟨gb, off, none⟩ → wb.heap.size ≤ gb ∧ gb < wd.heap.size := fun h0 gb off e => by
    obtain ⟨a2, c2, e2, _, _, _, h4⟩ := ownsRow_slice hown
    cases e2
    obtain ⟨g, e3, hg⟩ := h4 h0
    rw [e] at e3
    cases e3
    exact ownsRow_lt hown _ hg
  have hqd : Only (fun b => b = wx.heap.size ∨ wd.heap.size ≤ b) wd wf := by
    refine (hoe.mono (T := fun b => b = wx.heap.size ∨ wd.heap.size ≤ b) (fun i _ h => ?_)).trans hof (fun i _ h => ?_)
    · rcases h with h | h
      · exact .inl h
      · cases h
    · rcases h with h | h
      · exact .inl h
      · rcases hgc with hg | ⟨b, hg, hb⟩
        · rw [hg] at h; cases h
        · rw [hg] at h; cases h; exact .inr hb
  have ha : Only (fun b => wx.heap.size ≤ b) wx wb := (Below.only hNa.below (fun b => wx.heap.size ≤ b)).trans (Below.only hNb.below (fun _ => False)) (fun _ _ h => h.elim)
  have hb : Only (fun b => wx.heap.size ≤ b) wx wf := ha.trans hq (fun i _ h => by rcases h with h | h <;> omega)
  refine ⟨⟨hcf, hx.only hb (by omega), (hox.mono (T := fun b => w.heap.size ≤ b) (fun _ _ h => h.elim)).trans hb (fun i _ h => by omega)⟩, hNb.ch.only hq (fun i hi h => ?_), own_cells hown hqd (fun i hi hl h => by rcases h with h | h <;> omega), fun h0 gb off e => by have := hin h0 gb off e; omega, fun h => ?_, by omega, e1⟩
  · rcases hi with hi | hi
    · rcases h with h | h <;> omega
    · cases hi
  · rcases h with h | h
    · omega
    · rcases hg2 with hg | ⟨b, hg, hb⟩
      · rw [hg] at h
        rcases hgc with hg | ⟨b, hg, hb⟩
        · rw [hg] at h; cases h
        · rw [hg] at h; cases h; omega
      · rw [hg] at h; cases h; omega

theorem jdis {w wx : World} {ad : Option Addr} {cap : Nat} {M : List Int} (h : Src w ad cap M) (hs : wx.heap.size = w.heap.size + 1) : 0 < M.length → ∀ gb off, ad = some ⟨gb, off, none⟩ → gb < w.heap.size ∧ gb ≠ wx.heap.size := fun h0 gb off e => by
  obtain ⟨gb', off', e', hl, _⟩ := h.at_ h0
  rw [e] at e'
  cases e'
  omega

theorem jput1 {w wx wa wb wd : World} {A : List Int} {bound high low k1 : Nat} {a1 : Option Addr} {cap1 : Nat} (hNa : NewPost wx wa bound high low) (hNb : NewPost wa wb bound high low) (hod : Only (fun b => wb.heap.size ≤ b) wb wd)
    (hs : Src wb a1 cap1 A) (hd : 0 < A.length → ∀ gb off, a1 = some ⟨gb, off, none⟩ → gb < w.heap.size ∧ gb ≠ wx.heap.size) (hk : k1 = min A.length bound) :
    Calls Try.prog 11 #[.pointer (some ⟨wx.heap.size, 0, none⟩), .slice a1 A.length cap1] wd fun e w' => e = .returned (.int .i64 k1) ∧ PutPost wd w' wx.heap.size none bound high low (A.take k1) (putStop high k1 (A.take k1) false) := by
  have s1 := hNa.size
  have s2 := hNb.size
  have hc : Ch wd wx.heap.size none [] 0 bound high low [] false := (hNa.ch.only (Below.only hNb.below (fun _ => False)) (fun _ _ => id)).only hod (fun i hi h => by
    rcases hi with hi | hi
    · omega
    · cases hi)
  have := put_any hc a1 cap1 A (hs.far hod (fun _ _ _ _ hl h => by omega)) (fun h0 gb off e hf => by
    rcases hf with hf | hf
    · exact (hd h0 gb off e).2 hf
    · cases hf) k1 (by simpa using hk)
  rw [List.nil_append] at this
  exact this

theorem jput2 {w wx wa wb wd we : World} {A B : List Int} {bound high low k1 k2 : Nat} {a2 : Option Addr} {cap2 : Nat} {gc : Option Nat} {rc : List Int} {fc : Nat} {st : Bool} (hc : Ch we wx.heap.size gc rc fc bound high low (A.take k1) st)
    (hox : Only (fun _ => False) w wx) (hNa : NewPost wx wa bound high low) (hNb : NewPost wa wb bound high low) (hod : Only (fun b => wb.heap.size ≤ b) wb wd) (hoe : Only (foot wx.heap.size none) wd we)
    (hB : Src w a2 cap2 B) (hg : gc = none ∨ ∃ b, gc = some b ∧ wd.heap.size ≤ b) (hxs : wx.heap.size = w.heap.size + 1) (h1 : k1 = min A.length bound) (hk : k2 = min B.length (bound - k1)) :
    Calls Try.prog 11 #[.pointer (some ⟨wx.heap.size, 0, none⟩), .slice a2 B.length cap2] we fun e w' => e = .returned (.int .i64 k2) ∧ PutPost we w' wx.heap.size gc bound high low (A.take k1 ++ B.take k2) (putStop high k2 (A.take k1 ++ B.take k2) st) := by
  have s1 := hNa.size
  have s2 := hNb.size
  have s3 := hod.size
  have hsb := joined_src hB hox hNa hNb
  have hse : Src we a2 cap2 B := ((hsb.far hod (fun _ _ _ _ hl h => by omega))).far hoe (fun h0 gb off e _ hf => by
    have := (jdis hB hxs h0 gb off e)
    rcases hf with hf | hf
    · omega
    · cases hf)
  refine put_any hc a2 cap2 B hse (fun h0 gb off e hf => ?_) k2 (by rw [List.length_take]; omega)
  have := (jdis hB hxs h0 gb off e)
  rcases hf with hf | hf
  · omega
  · rcases hg with hg | ⟨b, hg, hb⟩
    · rw [hg] at hf; cases hf
    · rw [hg] at hf; cases hf; omega

set_option maxRecDepth 100000 in
set_option maxHeartbeats 6400000 in
theorem joined_good (A B : List Int) (a1 : Option Addr) (cap1 : Nat) (a2 : Option Addr) (cap2 : Nat) (w : World) (hA : Src w a1 cap1 A) (hB : Src w a2 cap2 B) (hn1 : a1 = none → cap1 = 0) (hn2 : a2 = none → cap2 = 0)
    (hlen : A.length + B.length ≤ 1048576) (bound high low : Nat) (hm : marksOk bound high low) :
    Calls Try.prog 7 #[.agg #[.int .i64 bound, .int .i64 high, .int .i64 low], .slice a1 A.length cap1, .slice a2 B.length cap2] w fun e w' => e = .returned (.bool true) ∧ Below w.heap.size w w' := by
  obtain ⟨i5, hi, hz0, hz1, hz2⟩ := info_parts Try.info5
  have HM := Lib.hid hm
  have HA := Lib.hid hA
  have HB := Lib.hid hB
  have HN1 := Lib.hid hn1
  have HN2 := Lib.hid hn2
  clear hm hA hB hn1 hn2
  go_enter Try.func7, Try.ntmps7
  go_wp2_with fail
  have hx : Blk (w.alloc (Obj.cells #[.int .i64 bound, .int .i64 high, .int .i64 low] 23)) w.heap.size [.int .i64 bound, .int .i64 high, .int .i64 low] 23 := Blk.new w [.int .i64 bound, .int .i64 high, .int .i64 low] 23
  have hox : Only (fun _ => False) w (w.alloc (Obj.cells #[.int .i64 bound, .int .i64 high, .int .i64 low] 23)) := (Only.refl _ _).alloc _
  have hxs : (w.alloc (Obj.cells #[.int .i64 bound, .int .i64 high, .int .i64 low] 23)).heap.size = w.heap.size + 1 := by simp
  generalize w.alloc (Obj.cells #[.int .i64 bound, .int .i64 high, .int .i64 low] 23) = wx at hx hox hxs ⊢
  have HX := Lib.hid hx
  have HOX := Lib.hid hox
  have HXS := Lib.hid hxs
  clear hx hox hxs
  go_wp2_with (first
    | (go_at_call 8; (with_reducible refine (new_ok wx bound high low HM.out).mono ?_); rintro e wa ⟨rfl, hNa⟩; have hba := HX.out.below hNa.below (by have := HXS.out; omega); have x0 := hba.cell 0 _ rfl; have x1 := hba.cell 1 _ rfl; have x2 := hba.cell 2 _ rfl; have HNA := Lib.hid hNa; clear hNa hba)
    | (go_at_call 8; (with_reducible refine (new_ok wa bound high low HM.out).mono ?_); rintro e wb ⟨rfl, hNb⟩; have HNB := Lib.hid hNb; clear hNb)
    | (at_builtin; refine wpList_append_row rfl (.tmp 61) (.tmp 62) 33 rfl wb.heap.size 5 i5 (.int .u8 0) 1 1 Try.underlying33 hi hz0 hz1 hz2 rfl (by decide) _ 0 [] rfl (World.ownsRow_nil _ _ _ _) a1 A.length cap1 (bytes A) rfl (by rw [bytes_length]; simp) (fun h0 => src_app (joined_src HA.out HOX.out HNA.out HNB.out) h0) HN1.out (bytes_one _) (by unfold maxLen; omega) (by omega) (by omega) ?_))
  intro v1 wc hown1 hon1 h4 h5
  clear h4 h5 x0 x1 x2
  obtain ⟨ac, cc, rfl, _, _, _, _⟩ := ownsRow_slice hown1
  have hoc : Only (fun b => wb.heap.size ≤ b) wb wc := hon1.mono (fun i _ h => by cases h)
  have HOWN1 := Lib.hid hown1
  have HOC := Lib.hid hoc
  clear hown1 hon1 hoc
  go_wp2_with (first
    | (at_builtin; refine wpList_append_row rfl (.tmp 64) (.tmp 65) 33 rfl wb.heap.size 5 i5 (.int .u8 0) 1 1 Try.underlying33 hi hz0 hz1 hz2 rfl (by decide) _ A.length (bytes A) rfl HOWN1.out a2 B.length cap2 (bytes B) rfl (by rw [bytes_length]; simp) (fun h0 => src_app ((joined_src HB.out HOX.out HNA.out HNB.out).far HOC.out (fun _ gb off _ hl h => by omega)) h0) HN2.out (bytes_one _) (by unfold maxLen; omega) (by omega) HOC.out.size ?_))
  intro v2 wd hown2 hon2 h4 h5
  clear h4 h5
  rw [bytes_append, ← List.length_append] at hown2
  obtain ⟨ad, cd, rfl, _, _, _, _⟩ := ownsRow_slice hown2
  have hod : Only (fun b => wb.heap.size ≤ b) wb wd := HOC.out.trans hon2 (fun i _ h => (ownsRow_lt HOWN1.out i h).1)
  have HOD := Lib.hid hod
  have HOWN := Lib.hid hown2
  obtain ⟨n, hn⟩ : ∃ n, n = (A ++ B).length := ⟨_, rfl⟩
  rw [← hn]
  obtain ⟨k1, hk1⟩ : ∃ k1, k1 = min A.length bound := ⟨_, rfl⟩
  obtain ⟨k2, hk2⟩ : ∃ k2, k2 = min B.length (bound - k1) := ⟨_, rfl⟩
  obtain ⟨k, hk⟩ : ∃ k, k = min (A ++ B).length bound := ⟨_, rfl⟩
  have hwr : IntKind.i64.wrap ((k1 : Int) + (k2 : Int)) = (k : Int) := by
    have := (joined_pure (high := high) (k := k) hk1 hk2 (by rw [List.length_append] at hk; exact hk)).1
    rw [show (k : Int) = (k1 : Int) + (k2 : Int) by omega]
    exact IntWalk.i64_in _ (by omega)
  have HK1 := Lib.hid hk1
  have HK2 := Lib.hid hk2
  have HKB := Lib.hid (⟨hn, hk⟩ : n = (A ++ B).length ∧ k = min (A ++ B).length bound)
  clear hod hown2 hon2 hn hk1 hk2 hk
  go_wp2_with (first
    | (go_at_call 11; (with_reducible refine (jput1 HNA.out HNB.out HOD.out (joined_src HA.out HOX.out HNA.out HNB.out) (jdis HA.out HXS.out) HK1.out).mono ?_); rintro e we ⟨rfl, hP⟩; obtain ⟨gc, rc, fc, hce, hoe, hgc⟩ := hP; have HCE := Lib.hid hce; have HOE := Lib.hid hoe; have HGC := Lib.hid hgc; clear hce hoe hgc)
    | (go_at_call 11; (with_reducible refine (jput2 HCE.out HOX.out HNA.out HNB.out HOD.out HOE.out HB.out HGC.out HXS.out HK1.out HK2.out).mono ?_); rintro e wf ⟨rfl, hP⟩; obtain ⟨g2, r2, f2, hcf, hof, hg2⟩ := hP; have HCF := Lib.hid hcf; have HOF := Lib.hid hof; have HG2 := Lib.hid hg2; clear hcf hof hg2)
    | fail)
  obtain ⟨L, hL⟩ : ∃ L, L = (A ++ B).take k := ⟨_, rfl⟩
  obtain ⟨st, hst⟩ : ∃ st, st = putStop high k L false := ⟨_, rfl⟩
  obtain ⟨hJ, hD, hSB, hNE, hP, hPD, hke⟩ := joined_at HX.out HOX.out HXS.out HNA.out HNB.out HOD.out HOWN.out HOE.out HCE.out HGC.out HOF.out HCF.out HG2.out HK1.out HK2.out HKB.out.2
  rw [← hL, ← hst] at hJ
  have hL2 : L.length ≤ 1048576 := by rw [hL, List.length_take, List.length_append]; omega
  obtain ⟨T, hT⟩ : ∃ T, T = L.take (bound : Int).toNat := ⟨_, rfl⟩
  obtain ⟨s, hs⟩ : ∃ s, s = strOfNums T := ⟨_, rfl⟩
  have hcv : ∀ (v : Value) (lo : Nat) (w' : World), OwnBytes w' lo v T → (convert 33 9 v).run Try.prog w' = .ok (.string s) w' := fun v lo w' h => by
    obtain ⟨ad, rfl, hsr⟩ := src_ownBytes h (by rw [hT, List.length_take]; omega)
    rw [hs]
    exact conv_src hsr
  obtain ⟨p, hp⟩ : ∃ p, p = wx.heap.size := ⟨_, rfl⟩
  obtain ⟨pd, hpd⟩ : ∃ pd, pd = wa.heap.size := ⟨_, rfl⟩
  rw [← hp] at hJ hP ⊢
  rw [← hpd] at hP hPD hD hNE ⊢
  have hx0 : ∀ w' : World, JC w p g2 r2 f2 bound high low L st w' → w'.cell? ⟨w.heap.size, 0, none⟩ = some (.int .i64 bound) := fun w' h => h.box.cell 0 _ rfl
  have hJ0 : JC w p g2 r2 f2 bound high low L st wf.drew := hJ.far ((Only.refl _ _).drew)
  have HD0 := Lib.hid (hD.only (Only.drew (Only.refl (fun _ => False) wf)) (fun _ _ => id))
  have HSB := Lib.hid (hSB.only (Only.drew (Only.refl (fun _ => False) wf)) (fun _ _ _ => id))
  have HJ0 := Lib.hid hJ0
  have HNE := Lib.hid hNE
  have HP := Lib.hid hP
  have HPD := Lib.hid hPD
  have HL := Lib.hid hL
  have HST := Lib.hid hst
  have HT := Lib.hid hT
  have e2 : (s.toList == s.toList) = true := beq_iff_eq.2 rfl
  clear hT hJ hD hSB hNE hP hPD hke hL hst hs hp hpd hwr HK1 HK2 HCE HOE HGC HCF HOF HG2 HOWN HOD HOC HOWN1 HNB HNA HXS HOX HX
  refine wp_region_noPanic ?_
  refine wp_region_held_drew (S := fun w' => JC w p g2 r2 f2 bound high low L st w') (by kernel_rfl) (by assumption) (fun hHeld => ?_)
  refine wpAnyH_take (i := 0) (v := ?_) rfl (by kernel_rfl) (by kernel_rfl) (by kernel_rfl) (fun _ _ _ h => h) (Or.inl ⟨by rfl, ?_⟩) (by assumption) ?_
  rotate_left 1
  · (intro w hSw; (try dsimp only at hSw); go_simp) <;> with_reducible rfl
  try simp only [Act.put, List.setIfInBounds_toArray, List.set_cons_zero, List.set_cons_succ, List.getElem_toArray, List.getElem_cons_zero, List.getElem_cons_succ]
  refine wpAnyH_take (i := 1) (v := ?_) rfl (by kernel_rfl) (by kernel_rfl) (by kernel_rfl) (fun _ _ _ h => h) (Or.inl ⟨by rfl, ?_⟩) (by assumption) ?_
  rotate_left 1
  · (intro w hSw; (try dsimp only at hSw); go_simp) <;> with_reducible rfl
  try simp only [Act.put, List.setIfInBounds_toArray, List.set_cons_zero, List.set_cons_succ, List.getElem_toArray, List.getElem_cons_zero, List.getElem_cons_succ]
  refine wpAnyH_take (i := 2) (v := ?_) rfl (by kernel_rfl) (by kernel_rfl) (by kernel_rfl) (fun _ _ _ h => h) (Or.inl ⟨by rfl, ?_⟩) (by assumption) ?_
  rotate_left 1
  · (intro w hSw; (try dsimp only at hSw); go_simp) <;> with_reducible rfl
  try simp only [Act.put, List.setIfInBounds_toArray, List.set_cons_zero, List.set_cons_succ, List.getElem_toArray, List.getElem_cons_zero, List.getElem_cons_succ]
  refine wpAnyH_ready (rs := [3]) (by kernel_rfl) (by simp) ?_
  refine (AllReadyH.cons rfl (fun K hK => ?_) AllReadyH.nil)
  go_simp
  (go_at_call 11; (with_reducible refine (joined_put HJ0.out HD0.out HSB.out HKB.out HNE.out HP.out HPD.out).mono ?_); rintro e wg ⟨rfl, hp⟩; obtain ⟨gd, rd, fd, hj1, hd1⟩ := hp; rw [← HL.out, ← HST.out] at hd1; have h2 := (⟨hj1, hd1⟩ : _ ∧ _); clear hd1)
  go_wp2_with fail
  refine hK.out _ _ (hj1) (fun hHeld => ?_)
  clear hK K
  try simp only [Act.put, List.setIfInBounds_toArray, List.set_cons_zero, List.set_cons_succ, List.getElem_toArray, List.getElem_cons_zero, List.getElem_cons_succ]
  clear hj1
  refine wpAnyH_imp (S' := fun w' => JC w p g2 r2 f2 bound high low L st w' ∧ Ch w' pd gd rd fd bound high low L st) (fun w h => h.1) _ _ _ _ ?_
  refine wpAnyH_take (i := 4) (v := ?_) rfl (by kernel_rfl) (by kernel_rfl) (by kernel_rfl) (fun _ _ _ h => h) (Or.inl ⟨by rfl, ?_⟩) (by assumption) ?_
  rotate_left 1
  · (intro w hSw; (try dsimp only at hSw); go_simp) <;> with_reducible rfl
  try simp only [Act.put, List.setIfInBounds_toArray, List.set_cons_zero, List.set_cons_succ, List.getElem_toArray, List.getElem_cons_zero, List.getElem_cons_succ]
  refine wpAnyH_take (i := 5) (v := ?_) rfl (by kernel_rfl) (by kernel_rfl) (by kernel_rfl) (fun _ _ _ h => h) (Or.inl ⟨by rfl, ?_⟩) (by assumption) ?_
  rotate_left 1
  · (intro w hSw; (try dsimp only at hSw); go_simp) <;> with_reducible rfl
  try simp only [Act.put, List.setIfInBounds_toArray, List.set_cons_zero, List.set_cons_succ, List.getElem_toArray, List.getElem_cons_zero, List.getElem_cons_succ]
  refine wpAnyH_take (i := 6) (v := ?_) rfl (by kernel_rfl) (by kernel_rfl) (by kernel_rfl) (fun _ _ _ h => h) (Or.inl ⟨by rfl, ?_⟩) (by assumption) ?_
  rotate_left 1
  · (intro w hSw; (try dsimp only at hSw); go_simp) <;> with_reducible rfl
  try simp only [Act.put, List.setIfInBounds_toArray, List.set_cons_zero, List.set_cons_succ, List.getElem_toArray, List.getElem_cons_zero, List.getElem_cons_succ]
  refine wpAnyH_take (i := 8) (v := ?_) rfl (by kernel_rfl) (by kernel_rfl) (by kernel_rfl) (fun _ _ _ h => h) (Or.inl ⟨by rfl, ?_⟩) (by assumption) ?_
  rotate_left 1
  · (intro w hSw; (try dsimp only at hSw); go_simp) <;> with_reducible rfl
  try simp only [Act.put, List.setIfInBounds_toArray, List.set_cons_zero, List.set_cons_succ, List.getElem_toArray, List.getElem_cons_zero, List.getElem_cons_succ]
  refine wpAnyH_ready (rs := [7]) (by kernel_rfl) (by simp) ?_
  refine (AllReadyH.cons rfl (fun K hK => ?_) AllReadyH.nil)
  go_simp
  (go_at_call 22; (with_reducible refine (stopped_any h2.1.ch).mono ?_); rintro e w' ⟨rfl, rfl⟩)
  go_wp2_with fail
  refine hK.out _ _ (h2) (fun hHeld => ?_)
  clear hK K
  try simp only [Act.put, List.setIfInBounds_toArray, List.set_cons_zero, List.set_cons_succ, List.getElem_toArray, List.getElem_cons_zero, List.getElem_cons_succ]
  refine wpAnyH_ready (rs := [9]) (by kernel_rfl) (by simp) ?_
  refine (AllReadyH.cons rfl (fun K hK => ?_) AllReadyH.nil)
  go_simp
  (go_at_call 22; (with_reducible refine (stopped_any h2.2).mono ?_); rintro e w' ⟨rfl, rfl⟩)
  go_wp2_with fail
  refine hK.out _ _ (h2) (fun hHeld => ?_)
  clear hK K
  try simp only [Act.put, List.setIfInBounds_toArray, List.set_cons_zero, List.set_cons_succ, List.getElem_toArray, List.getElem_cons_zero, List.getElem_cons_succ]
  refine wpAnyH_take (i := 10) (v := ?_) rfl (by kernel_rfl) (by kernel_rfl) (by kernel_rfl) (fun _ _ _ h => h) (Or.inl ⟨by rfl, ?_⟩) (by assumption) ?_
  rotate_left 1
  · (intro w hSw; (try dsimp only at hSw); go_simp) <;> with_reducible rfl
  try simp only [Act.put, List.setIfInBounds_toArray, List.set_cons_zero, List.set_cons_succ, List.getElem_toArray, List.getElem_cons_zero, List.getElem_cons_succ]
  refine wpAnyH_take (i := 11) (v := ?_) rfl (by kernel_rfl) (by kernel_rfl) (by kernel_rfl) (fun _ _ _ h => h) (Or.inl ⟨by rfl, ?_⟩) (by assumption) ?_
  rotate_left 1
  · (intro w hSw; (try dsimp only at hSw); go_simp) <;> with_reducible rfl
  try simp only [Act.put, List.setIfInBounds_toArray, List.set_cons_zero, List.set_cons_succ, List.getElem_toArray, List.getElem_cons_zero, List.getElem_cons_succ]
  refine wpAnyH_take (i := 12) (v := ?_) rfl (by kernel_rfl) (by kernel_rfl) (by kernel_rfl) (fun _ _ _ h => h) (Or.inl ⟨by rfl, ?_⟩) (by assumption) ?_
  rotate_left 1
  · (intro w hSw; (try dsimp only at hSw); go_simp) <;> with_reducible rfl
  try simp only [Act.put, List.setIfInBounds_toArray, List.set_cons_zero, List.set_cons_succ, List.getElem_toArray, List.getElem_cons_zero, List.getElem_cons_succ]
  refine wpAnyH_take (i := 13) (v := ?_) rfl (by kernel_rfl) (by kernel_rfl) (by kernel_rfl) (fun _ _ _ h => h) (Or.inl ⟨by rfl, ?_⟩) (by assumption) ?_
  rotate_left 1
  · (intro w hSw; (try dsimp only at hSw); go_simp) <;> with_reducible rfl
  try simp only [Act.put, List.setIfInBounds_toArray, List.set_cons_zero, List.set_cons_succ, List.getElem_toArray, List.getElem_cons_zero, List.getElem_cons_succ]
  refine wpAnyH_take (i := 15) (v := ?_) rfl (by kernel_rfl) (by kernel_rfl) (by kernel_rfl) (fun _ _ _ h => h) (Or.inl ⟨by rfl, ?_⟩) (by assumption) ?_
  rotate_left 1
  · (intro w hSw; (try dsimp only at hSw); go_simp) <;> with_reducible rfl
  try simp only [Act.put, List.setIfInBounds_toArray, List.set_cons_zero, List.set_cons_succ, List.getElem_toArray, List.getElem_cons_zero, List.getElem_cons_succ]
  refine wpAnyH_ready (rs := [14]) (by kernel_rfl) (by simp) ?_
  refine (AllReadyH.cons rfl (fun K hK => ?_) AllReadyH.nil)
  go_simp
  (go_at_call 20; (with_reducible refine (len_any h2.1.ch).mono ?_); rintro e w' ⟨rfl, rfl⟩)
  go_wp2_with fail
  refine hK.out _ _ (h2) (fun hHeld => ?_)
  clear hK K
  try simp only [Act.put, List.setIfInBounds_toArray, List.set_cons_zero, List.set_cons_succ, List.getElem_toArray, List.getElem_cons_zero, List.getElem_cons_succ]
  refine wpAnyH_ready (rs := [16]) (by kernel_rfl) (by simp) ?_
  refine (AllReadyH.cons rfl (fun K hK => ?_) AllReadyH.nil)
  go_simp
  (go_at_call 20; (with_reducible refine (len_any h2.2).mono ?_); rintro e w' ⟨rfl, rfl⟩)
  go_wp2_with fail
  refine hK.out _ _ (h2) (fun hHeld => ?_)
  clear hK K
  try simp only [Act.put, List.setIfInBounds_toArray, List.set_cons_zero, List.set_cons_succ, List.getElem_toArray, List.getElem_cons_zero, List.getElem_cons_succ]
  refine wpAnyH_take (i := 17) (v := ?_) rfl (by kernel_rfl) (by kernel_rfl) (by kernel_rfl) (fun _ _ _ h => h) (Or.inl ⟨by rfl, ?_⟩) (by assumption) ?_
  rotate_left 1
  · (intro w hSw; (try dsimp only at hSw); go_simp) <;> with_reducible rfl
  try simp only [Act.put, List.setIfInBounds_toArray, List.set_cons_zero, List.set_cons_succ, List.getElem_toArray, List.getElem_cons_zero, List.getElem_cons_succ]
  refine wpAnyH_take (i := 18) (v := ?_) rfl (by kernel_rfl) (by kernel_rfl) (by kernel_rfl) (fun _ _ _ h => h) (Or.inl ⟨by rfl, ?_⟩) (by assumption) ?_
  rotate_left 1
  · (intro w hSw; (try dsimp only at hSw); go_simp) <;> with_reducible rfl
  try simp only [Act.put, List.setIfInBounds_toArray, List.set_cons_zero, List.set_cons_succ, List.getElem_toArray, List.getElem_cons_zero, List.getElem_cons_succ]
  refine wpAnyH_take (i := 19) (v := ?_) rfl (by kernel_rfl) (by kernel_rfl) (by kernel_rfl) (fun _ _ _ h => h) (Or.inl ⟨by rfl, ?_⟩) (by assumption) ?_
  rotate_left 1
  · (intro w hSw; (try dsimp only at hSw); go_simp) <;> with_reducible rfl
  try simp only [Act.put, List.setIfInBounds_toArray, List.set_cons_zero, List.set_cons_succ, List.getElem_toArray, List.getElem_cons_zero, List.getElem_cons_succ]
  refine wpAnyH_take (i := 20) (v := ?_) rfl (by kernel_rfl) (by kernel_rfl) (by kernel_rfl) (fun _ _ _ h => h) (Or.inl ⟨by rfl, ?_⟩) (by assumption) ?_
  rotate_left 1
  · (intro w hSw; (try dsimp only at hSw); go_simp) <;> with_reducible rfl
  try simp only [Act.put, List.setIfInBounds_toArray, List.set_cons_zero, List.set_cons_succ, List.getElem_toArray, List.getElem_cons_zero, List.getElem_cons_succ]
  refine wpAnyH_take (i := 21) (v := ?_) rfl (by kernel_rfl) (by kernel_rfl) (by kernel_rfl) (fun _ _ _ h => h) (Or.inl ⟨by rfl, ?_⟩) (by assumption) ?_
  rotate_left 1
  · (intro w hSw; (try dsimp only at hSw); go_simp) <;> with_reducible rfl
  try simp only [Act.put, List.setIfInBounds_toArray, List.set_cons_zero, List.set_cons_succ, List.getElem_toArray, List.getElem_cons_zero, List.getElem_cons_succ]
  refine wpAnyH_take (i := 25) (v := ?_) rfl (by kernel_rfl) (by kernel_rfl) (by kernel_rfl) (fun _ _ _ h => h) (Or.inl ⟨by rfl, ?_⟩) (by assumption) ?_
  rotate_left 1
  · (intro w hSw; (try dsimp only at hSw); go_simp) <;> with_reducible rfl
  try simp only [Act.put, List.setIfInBounds_toArray, List.set_cons_zero, List.set_cons_succ, List.getElem_toArray, List.getElem_cons_zero, List.getElem_cons_succ]
  refine wpAnyH_take (i := 26) (v := ?_) rfl (by kernel_rfl) (by kernel_rfl) (by kernel_rfl) (fun _ _ _ h => h) (Or.inl ⟨by rfl, ?_⟩) (by assumption) ?_
  rotate_left 1
  · (intro w hSw; (try dsimp only at hSw); go_simp) <;> with_reducible rfl
  try simp only [Act.put, List.setIfInBounds_toArray, List.set_cons_zero, List.set_cons_succ, List.getElem_toArray, List.getElem_cons_zero, List.getElem_cons_succ]
  refine wpAnyH_take (i := 22) (v := ?_) rfl (by kernel_rfl) (by kernel_rfl) (by kernel_rfl) (fun _ _ _ h => h) (Or.inl ⟨by rfl, ?_⟩) (by assumption) ?_
  rotate_left 1
  · (intro w hSw; (try dsimp only at hSw); go_simp) <;> with_reducible rfl
  try simp only [Act.put, List.setIfInBounds_toArray, List.set_cons_zero, List.set_cons_succ, List.getElem_toArray, List.getElem_cons_zero, List.getElem_cons_succ]
  refine wpAnyH_take (i := 27) (v := ?_) rfl (by kernel_rfl) (by kernel_rfl) (by kernel_rfl) (fun _ _ _ h => h) (Or.inl ⟨by rfl, ?_⟩) (by assumption) ?_
  rotate_left 1
  · (intro w hSw; (try dsimp only at hSw); go_simp) <;> with_reducible rfl
  try simp only [Act.put, List.setIfInBounds_toArray, List.set_cons_zero, List.set_cons_succ, List.getElem_toArray, List.getElem_cons_zero, List.getElem_cons_succ]
  refine wpAnyH_ready (rs := [23]) (by kernel_rfl) (by simp) ?_
  refine (AllReadyH.cons rfl (fun K hK => ?_) AllReadyH.nil)
  go_simp
  (go_at_call 16; (with_reducible refine (peek_any h2.1.ch _).mono ?_); rintro e wc1 ⟨vc, rfl, hoc⟩; rw [← HT.out] at hoc; have h3 := (⟨h2.1.far hoc.only, h2.2.only hoc.only (fun _ _ => id)⟩ : _ ∧ _))
  go_wp2_with fail
  refine hK.out _ _ (h3) (fun hHeld => ?_)
  clear hK K
  try simp only [Act.put, List.setIfInBounds_toArray, List.set_cons_zero, List.set_cons_succ, List.getElem_toArray, List.getElem_cons_zero, List.getElem_cons_succ]
  have hq3 := (⟨h3, hoc.own⟩ : (_ ∧ _) ∧ _)
  have hcv1 := fun w' => hcv vc wg.heap.size w'
  refine wpAnyH_imp (S' := fun w' => (JC w p g2 r2 f2 bound high low L st w' ∧ Ch w' pd gd rd fd bound high low L st) ∧ OwnBytes w' wg.heap.size vc T) (fun w h => h.1) _ _ _ _ ?_
  refine wpAnyH_take (i := 24) (v := ?_) rfl (by kernel_rfl) (by kernel_rfl) (by kernel_rfl) (fun _ _ _ h => h) (Or.inl ⟨by rfl, ?_⟩) (by assumption) ?_
  rotate_left 1
  · (intro w hSw; (try dsimp only at hSw); go_simp) <;> with_reducible rfl
  try simp only [Act.put, List.setIfInBounds_toArray, List.set_cons_zero, List.set_cons_succ, List.getElem_toArray, List.getElem_cons_zero, List.getElem_cons_succ]
  refine wpAnyH_ready (rs := [28]) (by kernel_rfl) (by simp) ?_
  refine (AllReadyH.cons rfl (fun K hK => ?_) AllReadyH.nil)
  go_simp
  (go_at_call 16; (with_reducible refine (peek_any hq3.1.2 _).mono ?_); rintro e wd1 ⟨vd, rfl, hod⟩; rw [← HT.out] at hod; have h6 := (⟨⟨hq3.1.1.far hod.only, hq3.1.2.only hod.only (fun _ _ => id)⟩, hq3.2.only hod.only (fun _ h => h.elim)⟩ : (_ ∧ _) ∧ _))
  go_wp2_with fail
  refine hK.out _ _ (h6) (fun hHeld => ?_)
  clear hK K
  try simp only [Act.put, List.setIfInBounds_toArray, List.set_cons_zero, List.set_cons_succ, List.getElem_toArray, List.getElem_cons_zero, List.getElem_cons_succ]
  have h4 := (⟨h6, hod.own⟩ : ((_ ∧ _) ∧ _) ∧ _)
  have hcv2 := fun w' => hcv vd wc1.heap.size w'
  refine wpAnyH_imp (S' := fun w' => ((JC w p g2 r2 f2 bound high low L st w' ∧ Ch w' pd gd rd fd bound high low L st) ∧ OwnBytes w' wg.heap.size vc T) ∧ OwnBytes w' wc1.heap.size vd T) (fun w h => h.1) _ _ _ _ ?_
  refine wpAnyH_take (i := 29) (v := ?_) rfl (by kernel_rfl) (by kernel_rfl) (by kernel_rfl) (fun _ _ _ h => h) (Or.inl ⟨by rfl, ?_⟩) (by assumption) ?_
  rotate_left 1
  · (intro w hSw; (try dsimp only at hSw); go_simp) <;> with_reducible rfl
  try simp only [Act.put, List.setIfInBounds_toArray, List.set_cons_zero, List.set_cons_succ, List.getElem_toArray, List.getElem_cons_zero, List.getElem_cons_succ]
  refine wpAnyH_take (i := 30) (v := ?_) rfl (by kernel_rfl) (by kernel_rfl) (by kernel_rfl) (fun _ _ _ h => h) (Or.inl ⟨by rfl, ?_⟩) (by assumption) ?_
  rotate_left 1
  · (intro w hSw; (try dsimp only at hSw); go_simp) <;> with_reducible rfl
  try simp only [Act.put, List.setIfInBounds_toArray, List.set_cons_zero, List.set_cons_succ, List.getElem_toArray, List.getElem_cons_zero, List.getElem_cons_succ]
  refine wpAnyH_take (i := 31) (v := ?_) rfl (by kernel_rfl) (by kernel_rfl) (by kernel_rfl) (fun _ _ _ h => h) (Or.inl ⟨by rfl, ?_⟩) (by assumption) ?_
  rotate_left 1
  · (intro w hSw; (try dsimp only at hSw); go_simp) <;> with_reducible rfl
  try simp only [Act.put, List.setIfInBounds_toArray, List.set_cons_zero, List.set_cons_succ, List.getElem_toArray, List.getElem_cons_zero, List.getElem_cons_succ]
  refine wpAnyH_take (i := 32) (v := ?_) rfl (by kernel_rfl) (by kernel_rfl) (by kernel_rfl) (fun _ _ _ h => h) (Or.inl ⟨by rfl, ?_⟩) (by assumption) ?_
  rotate_left 1
  · (intro w hSw; (try dsimp only at hSw); go_simp) <;> with_reducible rfl
  try simp only [Act.put, List.setIfInBounds_toArray, List.set_cons_zero, List.set_cons_succ, List.getElem_toArray, List.getElem_cons_zero, List.getElem_cons_succ]
  refine wpAnyH_ready (rs := [33]) (by kernel_rfl) (by simp) ?_
  refine (AllReadyH.cons rfl (fun K hK => ?_) AllReadyH.nil)
  go_simp
  (go_at_call 10; (with_reducible refine (speaks_ok _).mono ?_); rintro e ws ⟨rfl, hbs⟩; have hos := Below.only hbs (fun _ => False); have h5 := (⟨⟨⟨h4.1.1.1.far hos, h4.1.1.2.only hos (fun _ _ => id)⟩, h4.1.2.only hos (fun _ h => h.elim)⟩, h4.2.only hos (fun _ h => h.elim)⟩ : ((_ ∧ _) ∧ _) ∧ _); clear hbs hos)
  go_wp2_with fail
  refine hK.out _ _ (h5) (fun hHeld => ?_)
  clear hK K
  try simp only [Act.put, List.setIfInBounds_toArray, List.set_cons_zero, List.set_cons_succ, List.getElem_toArray, List.getElem_cons_zero, List.getElem_cons_succ]
  refine wpAnyH_take (i := 34) (v := ?_) rfl (by kernel_rfl) (by kernel_rfl) (by kernel_rfl) (fun _ _ _ h => h) (Or.inl ⟨by rfl, ?_⟩) (by assumption) ?_
  rotate_left 1
  · (intro w hSw; (try dsimp only at hSw); go_simp) <;> with_reducible rfl
  try simp only [Act.put, List.setIfInBounds_toArray, List.set_cons_zero, List.set_cons_succ, List.getElem_toArray, List.getElem_cons_zero, List.getElem_cons_succ]
  refine wpAnyH_take (i := 35) (v := ?_) rfl (by kernel_rfl) (by kernel_rfl) (by kernel_rfl) (fun _ _ _ h => h) (Or.inl ⟨by rfl, ?_⟩) (by assumption) ?_
  rotate_left 1
  · (intro w hSw; (try dsimp only at hSw); go_simp) <;> with_reducible rfl
  try simp only [Act.put, List.setIfInBounds_toArray, List.set_cons_zero, List.set_cons_succ, List.getElem_toArray, List.getElem_cons_zero, List.getElem_cons_succ]
  refine wpAnyH_done (by kernel_rfl) ?_ _
  refine NoPanic.normal ?_
  go_wp2_with fail
  go_ret
  exact ⟨rfl, h5.1.1.1.own.below (Nat.le_refl _) (fun _ h => h)⟩
end Go.Proofs.Ytpkaaadnolmidaa

