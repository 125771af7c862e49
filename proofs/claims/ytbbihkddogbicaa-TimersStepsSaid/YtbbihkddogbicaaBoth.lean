/- The timers and the reference's timers, side by side. -/
import Derived.Test.YtbbihkddogbicaaOrder
import Derived.Test.YtbbihkddogbicaaRef7
namespace Go.Proofs.Ytbbihkddogbicaa
open Go.RowKit
set_option linter.unusedVariables false
set_option linter.unusedSimpArgs false

/-- Both, and a row of numbers, each apart from the others; st: a step's block, that is nobody's. -/
structure Du (F G : Nat → Prop) (w0 w : World) (st : Option (Nat × List Value)) (p q most : Nat) (ts : List Tm) (used : List Nat) (set : Nat) (tr : List Tm) (ur : List Nat) (sr : Nat) (v : Value) (l : List Int) : Prop where
  tp : TP F w w0.heap.size p most ts used set
  tr : TR G w w0.heap.size q most tr ur sr
  row : Ints w w0.heap.size v l
  below : Below w0.heap.size w0 w
  dis : ∀ k, F k → ¬ G k
  apF : ∀ k, v.ownBlock = some k → ¬ F k
  apG : ∀ k, v.ownBlock = some k → ¬ G k
  big : ∀ x ∈ l, x ≤ 9223372036854775807
  kept : ∀ s cs, st = some (s, cs) → Blk w s cs 33 ∧ ¬ F s ∧ ¬ G s

def D (w0 w : World) (st : Option (Nat × List Value)) (p q most : Nat) (ts : List Tm) (used : List Nat) (set : Nat) (tr : List Tm) (ur : List Nat) (sr : Nat) (v : Value) (l : List Int) : Prop :=
  ∃ F G, Du F G w0 w st p q most ts used set tr ur sr v l

section
variable {F G : Nat → Prop} {w0 w : World} {st : Option (Nat × List Value)} {p q most : Nat} {ts : List Tm} {used : List Nat} {set : Nat} {tr : List Tm} {ur : List Nat} {sr : Nat} {v : Value} {l : List Int}

theorem Du.goP (h : Du F G w0 w st p q most ts used set tr ur sr v l) {F' : Nat → Prop} {w' : World} {ts' : List Tm} {used' : List Nat} {set' : Nat} (ht : TP F' w' w0.heap.size p most ts' used' set') (ho : Only F w w') (hF : ∀ k, F' k → F k ∨ w.heap.size ≤ k) :
    Du F' G w0 w' st p q most ts' used' set' tr ur sr v l :=
  ⟨ht, h.tr.only ho (fun k hk hf => h.dis k hf hk), owns_only h.row ho h.apF, below_only h.below ho h.below.size (fun k hk => (h.tp.lt k hk).1),
    fun k hk hg => (hF k hk).elim (fun hf => h.dis k hf hg) (fun hl => by have := (h.tr.lt k hg).2; omega),
    fun k hk hf => (hF k hf).elim (h.apF k hk) (fun hl => by have := (ownsRow_lt h.row k hk).2; omega), h.apG, h.big,
    fun s cs e => by obtain ⟨h1, h2, h3⟩ := h.kept s cs e; exact ⟨h1.only ho h2, fun hf => (hF s hf).elim h2 (fun hl => by have := h1.lt; omega), h3⟩⟩
theorem Du.goR (h : Du F G w0 w st p q most ts used set tr ur sr v l) {G' : Nat → Prop} {w' : World} {tr' : List Tm} {ur' : List Nat} {sr' : Nat} (ht : TR G' w' w0.heap.size q most tr' ur' sr') (ho : Only G w w') (hG : ∀ k, G' k → G k ∨ w.heap.size ≤ k) :
    Du F G' w0 w' st p q most ts used set tr' ur' sr' v l :=
  ⟨h.tp.only ho (fun k hk hg => h.dis k hk hg), ht, owns_only h.row ho h.apG, below_only h.below ho h.below.size (fun k hk => (h.tr.lt k hk).1),
    fun k hk hg => (hG k hg).elim (fun hg => h.dis k hk hg) (fun hl => by have := (h.tp.lt k hk).2; omega),
    h.apF, fun k hk hg => (hG k hg).elim (h.apG k hk) (fun hl => by have := (ownsRow_lt h.row k hk).2; omega), h.big,
    fun s cs e => by obtain ⟨h1, h2, h3⟩ := h.kept s cs e; exact ⟨h1.only ho h3, h2, fun hg => (hG s hg).elim h3 (fun hl => by have := h1.lt; omega)⟩⟩
theorem D.only {w' : World} (h : D w0 w st p q most ts used set tr ur sr v l) (ho : Only (fun _ => False) w w') : D w0 w' st p q most ts used set tr ur sr v l := by
  obtain ⟨F, G, h⟩ := h
  exact ⟨F, G, h.goP (h.tp.only ho (fun _ _ h => h)) (ho.mono (fun _ _ h => h.elim)) (fun k hk => .inl hk)⟩
theorem D.drawn {w' : World} (h : D w0 w st p q most ts used set tr ur sr v l) (hd : Drawn w w') : D w0 w' st p q most ts used set tr ur sr v l := h.only (hd.only _)
theorem D.row (h : D w0 w st p q most ts used set tr ur sr v l) : w.ownsRow w0.heap.size 3 1 v l.length (ints l) := by obtain ⟨F, G, h⟩ := h; exact h.row
theorem D.irow (h : D w0 w st p q most ts used set tr ur sr v l) : IRow w v l := by obtain ⟨F, G, h⟩ := h; exact h.row.irow
theorem D.below (h : D w0 w st p q most ts used set tr ur sr v l) : Below w0.heap.size w0 w := by obtain ⟨F, G, h⟩ := h; exact h.below
theorem D.big (h : D w0 w st p q most ts used set tr ur sr v l) : ∀ x ∈ l, x ≤ 9223372036854775807 := by obtain ⟨F, G, h⟩ := h; exact h.big
theorem D.ok (h : D w0 w st p q most ts used set tr ur sr v l) : Ok most ts used set := by obtain ⟨F, G, h⟩ := h; exact h.tp.ok
theorem D.okr (h : D w0 w st p q most ts used set tr ur sr v l) : Ok most tr ur sr := by obtain ⟨F, G, h⟩ := h; exact h.tr.ok
theorem D.step {s : Nat} {cs : List Value} (h : D w0 w (some (s, cs)) p q most ts used set tr ur sr v l) : Blk w s cs 33 := by obtain ⟨F, G, h⟩ := h; exact (h.kept s cs rfl).1
theorem D.free (h : D w0 w st p q most ts used set tr ur sr v l) : D w0 w none p q most ts used set tr ur sr v l := by
  obtain ⟨F, G, h⟩ := h
  exact ⟨F, G, h.tp, h.tr, h.row, h.below, h.dis, h.apF, h.apG, h.big, fun s cs e => by cases e⟩
theorem D.new_ {cs : List Value} (h : D w0 w none p q most ts used set tr ur sr v l) : D w0 (w.alloc (.cells cs.toArray 33)) (some (w.heap.size, cs)) p q most ts used set tr ur sr v l := by
  obtain ⟨F, G, h⟩ := h
  have ho : Only (fun _ => False) w (w.alloc (.cells cs.toArray 33)) := (Only.refl _ _).alloc _
  have h2 := h.goP (h.tp.only ho (fun _ _ h => h)) (ho.mono (fun _ _ h => h.elim)) (fun k hk => .inl hk)
  refine ⟨F, G, h2.tp, h2.tr, h2.row, h2.below, h2.dis, h2.apF, h2.apG, h2.big, fun s cs' e => ?_⟩
  cases e
  exact ⟨Blk.new w cs 33, fun hf => by have := (h.tp.lt _ hf).2; omega, fun hf => by have := (h.tr.lt _ hf).2; omega⟩
theorem D.size (h : D w0 w st p q most ts used set tr ur sr v l) : w0.heap.size ≤ w.heap.size := h.below.size

theorem D.app {o : Obj} {w2 : World} {v2 : Value} {x : Int} (h : D w0 w st p q most ts used set tr ur sr v l) (hx : x ≤ 9223372036854775807) (hown : w2.ownsRow w0.heap.size 3 1 v2 (l.length + 1) (ints l ++ [.int .i64 x]))
    (hon : Only (fun k => v.ownBlock = some k) (w.alloc o) w2) (hat : v2.ownBlock = v.ownBlock ∨ v2.ownBlock = some (w.heap.size + 1)) : D w0 w2 none p q most ts used set tr ur sr v2 (l ++ [x]) := by
  obtain ⟨F, G, h⟩ := h
  have ho : Only (fun k => v.ownBlock = some k) w w2 := ((Only.refl _ w).alloc o).trans hon (fun _ _ h => h)
  refine ⟨F, G, h.tp.only ho (fun k hk e => h.apF k e hk), h.tr.only ho (fun k hk e => h.apG k e hk), ?_, below_only h.below ho h.below.size (fun k hk => (ownsRow_lt h.row k hk).1), h.dis, fun k hk hf => ?_, fun k hk hf => ?_, fun y hy => ?_, fun s cs e => by cases e⟩
  · unfold Ints ints at *
    rw [List.length_append, List.length_singleton, List.map_append]
    exact hown
  · rcases hat with e | e
    · exact h.apF k (by rw [← e]; exact hk) hf
    · rw [e] at hk
      injection hk with hk
      have := (h.tp.lt k hf).2
      omega
  · rcases hat with e | e
    · exact h.apG k (by rw [← e]; exact hk) hf
    · rw [e] at hk
      injection hk with hk
      have := (h.tr.lt k hf).2
      omega
  · rcases List.mem_append.1 hy with hy | hy
    · exact h.big y hy
    · rw [List.mem_singleton.1 hy]; exact hx

/-- Both are new. -/
theorem d_new {wa wb : World} (hm : 1 ≤ most ∧ most ≤ 4096) (h1 : NewPost w wa most) (h2 : RNewPost wa wb most) : D w wb none w.heap.size wa.heap.size most [] [] 0 [] [] 0 (.slice none 0 0) [] := by
  have s1 := h1.size
  have hb : Only (fun _ => False) wa wb := Below.only h2.below _
  have t1 := (tp_new hm h1).only hb (fun _ _ h => h)
  refine ⟨_, fun k => k = wa.heap.size, t1, ⟨_, _, ⟨h2.tr.blk, ownsRow_lower h2.tr.row (by omega), ownsRow_lower h2.tr.gens (by omega), h2.tr.foot, fun k hk => by have := h2.tr.lt k hk; omega⟩, Ok.new hm⟩, World.ownsRow_nil _ _ _ _, h1.below.trans (hb.below (by omega) (fun _ h => h.elim)), fun k hk hg => by omega, fun k hk => by (cases hk), fun k hk => by (cases hk), fun x hx => by (cases hx), fun s cs e => by cases e⟩

/-- Set at both: the same answer. -/
theorem d_set (h : D w0 w st p q most ts used set ts used set v l) (hs : set ≤ 1125899906842624) (at_ key : Int) :
    ∃ r f ts' used' set', r ≤ 9223372036854775807 ∧ set' ≤ set + 1 ∧
      Calls Try.prog 11 #[.pointer (some ⟨p, 0, none⟩), .int .i64 at_, .int .i64 key] w (fun e w' => e = .returned (.tuple #[.int .i64 r, .int .i64 f]) ∧ D w0 w' st p q most ts' used' set' ts used set v l) ∧
      ∀ w1, D w0 w1 st p q most ts' used' set' ts used set v l →
        Calls Try.prog 12 #[.pointer (some ⟨q, 0, none⟩), .int .i64 at_, .int .i64 key] w1 (fun e w' => e = .returned (.tuple #[.int .i64 r, .int .i64 f]) ∧ D w0 w' st p q most ts' used' set' ts' used' set' v l) := by
  by_cases ha : 0 ≤ at_ ∧ at_ ≤ 4611686018427387904
  · by_cases hf : ts.length < most
    · have hok := h.ok.add hf ha (key := key)
      have hage := hok.age_pos (t := newOf ts used set at_ key) (by simp)
      have hsl := hok.slot_lt (t := newOf ts used set at_ key) (by simp)
      refine ⟨(newOf ts used set at_ key).handle, 0, ts ++ [newOf ts used set at_ key], usedOf ts used, set + 1, by unfold Tm.handle; omega, Nat.le_refl _, ?_, fun w1 h1 => ?_⟩
      · obtain ⟨F, G, h⟩ := h
        refine (tp_set h.tp ha hf hs).mono ?_
        rintro e w' ⟨rfl, hP⟩
        exact ⟨rfl, _, _, h.goP hP.1 hP.2 (fun k hk => hk.imp id (fun h => h.1))⟩
      · obtain ⟨F, G, h1⟩ := h1
        obtain ⟨vl, vg, hT, hok1⟩ := id h1.tr
        refine (r_set_any hT hok1 hf hs ha).mono ?_
        rintro e w' ⟨rfl, vl', vg', hT', hO⟩
        exact ⟨rfl, _, _, h1.goR ⟨vl', vg', hT', hok⟩ hO (fun k hk => hk.imp id (fun h => h.1))⟩
    · have hl := h.ok.len
      refine ⟨0, 5, ts, used, set, by omega, by omega, ?_, fun w1 h1 => ?_⟩
      · have H := h
        obtain ⟨F, G, h⟩ := h
        refine (tp_set_full h.tp ha (by omega)).mono ?_
        rintro e w' ⟨rfl, hP⟩
        exact ⟨rfl, H.drawn hP⟩
      · have H := h1
        obtain ⟨F, G, h1⟩ := h1
        obtain ⟨vl, vg, hT, hok1⟩ := id h1.tr
        refine (r_set_full ha key hT (by omega)).mono ?_
        rintro e w' ⟨rfl, hP⟩
        exact ⟨rfl, H.drawn hP⟩
  · refine ⟨0, 1, ts, used, set, by omega, by omega, ?_, fun w1 h1 => ?_⟩
    · refine (set_bad (by omega) _ key w).mono ?_
      rintro e w' ⟨rfl, rfl⟩
      exact ⟨rfl, h⟩
    · refine (r_set_bad (by omega) _ key w1).mono ?_
      rintro e w' ⟨rfl, rfl⟩
      exact ⟨rfl, h1⟩

theorem TR.len4 {H : Nat → Prop} {lo : Nat} (h : TR H w lo q most tr ur sr) : tr.length ≤ 4096 := by have := h.ok.len; have := h.ok.most_; omega
theorem d_has (h : D w0 w st p q most ts used set tr ur sr v l) (hd : Int) (h5 : hd ≤ 9223372036854775807) :
    Calls Try.prog 13 #[.pointer (some ⟨p, 0, none⟩), .int .i64 hd] w fun e w' => e = .returned (.bool (has ts hd)) ∧ D w0 w' st p q most ts used set tr ur sr v l := by
  have H := h
  obtain ⟨F, G, h⟩ := h
  refine (tp_has h.tp hd h5).mono ?_
  rintro e w' ⟨rfl, hO⟩
  exact ⟨rfl, H.only hO⟩
theorem d_rhas (h : D w0 w st p q most ts used set tr ur sr v l) (hd : Int) :
    Calls Try.prog 14 #[.pointer (some ⟨q, 0, none⟩), .int .i64 hd] w fun e w' => e = .returned (.bool (has tr hd)) ∧ D w0 w' st p q most ts used set tr ur sr v l := by
  have H := h
  obtain ⟨F, G, h⟩ := h
  obtain ⟨vl, vg, hT, hok⟩ := id h.tr
  refine (r_has hT h.tr.len4 hd).mono ?_
  rintro e w' ⟨rfl, hO⟩
  exact ⟨rfl, H.only hO⟩
theorem d_cancel (h : D w0 w st p q most ts used set tr ur sr v l) (hd : Int) (h5 : hd ≤ 9223372036854775807) :
    Calls Try.prog 15 #[.pointer (some ⟨p, 0, none⟩), .int .i64 hd] w fun e w' => e = .returned (.bool (has ts hd)) ∧ D w0 w' st p q most (without ts hd) used set tr ur sr v l := by
  obtain ⟨F, G, h⟩ := h
  refine (tp_cancel h.tp hd h5).mono ?_
  rintro e w' ⟨rfl, hP⟩
  exact ⟨rfl, _, _, h.goP hP.1 hP.2 (fun k hk => .inl hk)⟩
theorem d_rcancel (h : D w0 w st p q most ts used set tr ur sr v l) (hd : Int) :
    Calls Try.prog 16 #[.pointer (some ⟨q, 0, none⟩), .int .i64 hd] w fun e w' => e = .returned (.bool (has tr hd)) ∧ D w0 w' st p q most ts used set (without tr hd) ur sr v l := by
  obtain ⟨F, G, h⟩ := h
  obtain ⟨vl, vg, hT, hok⟩ := id h.tr
  refine (r_cancel hT h.tr.len4 hd).mono ?_
  rintro e w' ⟨rfl, vl', vg', hT', hO⟩
  exact ⟨rfl, _, _, h.goR ⟨vl', vg', hT', hok.filter _⟩ hO (fun k hk => hk.imp id (fun h => h.1))⟩
theorem d_has_eq {b : Bool} {hd : Int} (hb : b = has ts hd) (h : D w0 w st p q most ts used set tr ur sr v l) (h5 : hd ≤ 9223372036854775807) :
    Calls Try.prog 13 #[.pointer (some ⟨p, 0, none⟩), .int .i64 hd] w fun e w' => e = .returned (.bool b) ∧ D w0 w' st p q most ts used set tr ur sr v l := by
  subst hb; exact d_has h hd h5
theorem d_rhas_eq {b : Bool} {hd : Int} (hb : b = has tr hd) (h : D w0 w st p q most ts used set tr ur sr v l) :
    Calls Try.prog 14 #[.pointer (some ⟨q, 0, none⟩), .int .i64 hd] w fun e w' => e = .returned (.bool b) ∧ D w0 w' st p q most ts used set tr ur sr v l := by
  subst hb; exact d_rhas h hd
theorem d_cancel_eq {b : Bool} {hd : Int} (hb : b = has ts hd) (h : D w0 w st p q most ts used set tr ur sr v l) (h5 : hd ≤ 9223372036854775807) :
    Calls Try.prog 15 #[.pointer (some ⟨p, 0, none⟩), .int .i64 hd] w fun e w' => e = .returned (.bool b) ∧ D w0 w' st p q most (without ts hd) used set tr ur sr v l := by
  subst hb; exact d_cancel h hd h5
theorem d_rcancel_eq {b : Bool} {hd : Int} (hb : b = has tr hd) (h : D w0 w st p q most ts used set tr ur sr v l) :
    Calls Try.prog 16 #[.pointer (some ⟨q, 0, none⟩), .int .i64 hd] w fun e w' => e = .returned (.bool b) ∧ D w0 w' st p q most ts used set (without tr hd) ur sr v l := by
  subst hb; exact d_rcancel h hd
/-- One has fired: its row is kept by. -/
def DF (w0 w : World) (st : Option (Nat × List Value)) (p q most : Nat) (ts : List Tm) (used : List Nat) (set : Nat) (tr : List Tm) (ur : List Nat) (sr : Nat) (v : Value) (l : List Int) (r : Value) (ks : List Int) : Prop :=
  ∃ F G, Du F G w0 w st p q most ts used set tr ur sr v l ∧ Ints w w0.heap.size r ks ∧ ∀ k, r.ownBlock = some k → ¬ G k
theorem d_fire (h : D w0 w st p q most ts used set tr ur sr v l) (now : Int) :
    Calls Try.prog 18 #[.pointer (some ⟨p, 0, none⟩), .int .i64 now] w fun e w' => ∃ r, e = .returned r ∧ DF w0 w' st p q most (stay now ts) used set tr ur sr v l r ((fire now ts).map (·.key)) := by
  obtain ⟨F, G, h⟩ := h
  refine (tp_fire h.tp now).mono ?_
  rintro e w' ⟨r, rfl, hP⟩
  exact ⟨r, rfl, _, _, h.goP hP.tp hP.only (fun k hk => .inl hk), ownsRow_lower hP.row h.below.size, fun k hk hg => by have := (ownsRow_lt hP.row k hk).1; have := (h.tr.lt k hg).2; omega⟩
theorem DF.d {r : Value} {ks : List Int} (h : DF w0 w st p q most ts used set tr ur sr v l r ks) : D w0 w st p q most ts used set tr ur sr v l := by obtain ⟨F, G, h, _⟩ := h; exact ⟨F, G, h⟩
theorem d_rfire {r : Value} {ks : List Int} (h : DF w0 w st p q most ts used set tr ur sr v l r ks) (now : Int) :
    Calls Try.prog 19 #[.pointer (some ⟨q, 0, none⟩), .int .i64 now] w fun e w' => ∃ r2, e = .returned r2 ∧ D w0 w' st p q most ts used set (stay now tr) ur sr v l ∧ IRow w' r ks ∧ IRow w' r2 ((fire now tr).map (·.key)) := by
  obtain ⟨F, G, h, hr, hg⟩ := h
  refine (tr_fire h.tr now).mono ?_
  rintro e w' ⟨r2, rfl, hP⟩
  exact ⟨r2, rfl, ⟨_, _, h.goR hP.tr hP.only (fun k hk => hk.imp id (fun h => h.1))⟩, Ints.irow (owns_only hr hP.only hg : Ints w' _ r ks), hP.row.irow⟩

theorem d_next (h : D w0 w st p q most ts used set ts used set v l) :
    ∃ a b, (∀ w1, D w0 w1 st p q most ts used set ts used set v l → Calls Try.prog 20 #[.pointer (some ⟨p, 0, none⟩)] w1 fun e w' => e = .returned (.tuple #[.int .i64 a, .bool b]) ∧ w1 = w') ∧
      ∀ w1, D w0 w1 st p q most ts used set ts used set v l → Calls Try.prog 21 #[.pointer (some ⟨q, 0, none⟩)] w1 fun e w' => e = .returned (.tuple #[.int .i64 a, .bool b]) ∧ D w0 w' st p q most ts used set ts used set v l := by
  by_cases hne : ts = []
  · subst hne
    refine ⟨0, false, fun w1 h1 => ?_, fun w1 h1 => ?_⟩
    · obtain ⟨F, G, h1⟩ := h1
      exact tp_next_none h1.tp
    · have H := h1
      obtain ⟨F, G, h1⟩ := h1
      obtain ⟨vl, vg, hT, hok⟩ := id h1.tr
      refine (r_next_none hT).mono ?_
      rintro e w' ⟨rfl, rfl⟩
      exact ⟨rfl, H⟩
  · refine ⟨(firstL ts).at_, true, fun w1 h1 => ?_, fun w1 h1 => ?_⟩
    · obtain ⟨F, G, h1⟩ := h1
      exact tp_next_some h1.tp hne
    · have H := h1
      obtain ⟨F, G, h1⟩ := h1
      obtain ⟨vl, vg, hT, hok⟩ := id h1.tr
      refine (r_next_some hT h1.tr.len4 (List.length_pos_iff.2 hne)).mono ?_
      rintro e w' ⟨rfl, hO⟩
      exact ⟨rfl, H.only hO⟩
theorem d_len (h : D w0 w st p q most ts used set tr ur sr v l) : Calls Try.prog 22 #[.pointer (some ⟨p, 0, none⟩)] w fun e w' => e = .returned (.int .i64 ts.length) ∧ w = w' := by
  obtain ⟨F, G, h⟩ := h
  exact tp_len h.tp
theorem d_len_eq {m : Nat} (hm : m = ts.length) (h : D w0 w st p q most ts used set tr ur sr v l) : Calls Try.prog 22 #[.pointer (some ⟨p, 0, none⟩)] w fun e w' => e = .returned (.int .i64 m) ∧ w = w' := by
  subst hm
  exact d_len h
theorem d_rlen (h : D w0 w st p q most ts used set tr ur sr v l) : q < w.heap.size ∧ ∃ ao cap, w.cell? ⟨q, 1, none⟩ = some (.slice ao tr.length cap) ∧ tr.length ≤ cap ∧ cap ≤ 9223372036854775807 := by
  obtain ⟨F, G, h⟩ := h
  obtain ⟨vl, vg, hT, hok⟩ := id h.tr
  obtain ⟨ao, cap, rfl, h1, h2, _⟩ := ownsRow_slice hT.row
  exact ⟨hT.blk.lt, ao, cap, hT.blk.cell 1 _ rfl, h1, by unfold maxLen at h2; omega⟩
end
end Go.Proofs.Ytbbihkddogbicaa
