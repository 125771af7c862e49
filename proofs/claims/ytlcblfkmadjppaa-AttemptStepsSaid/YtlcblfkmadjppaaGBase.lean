/- The reference's request as the walks see it. -/
import Derived.Test.YtlcblfkmadjppaaKeep
namespace Go.Proofs.Ytlcblfkmadjppaa
open Go.RowKit
set_option linter.unusedVariables false
set_option linter.unusedSimpArgs false

def sincesOf (l : List Run) : List Int := l.map fun x => (x.since : Int)
theorem sincesOf_len (l : List Run) : (sincesOf l).length = l.length := by simp [sincesOf]
theorem ints_len (l : List Int) : (ints l).length = l.length := by simp [ints]
theorem ints_get {l : List Int} {i : Nat} (h : i < l.length) : (ints l)[i]? = some (.int .i64 (l.getD i 0)) := by simp [ints, List.getD_eq_getElem?_getD, h]
theorem ints_append (a b : List Int) : ints (a ++ b) = ints a ++ ints b := by simp [ints]
theorem ints_one (l : List Int) : ∀ u ∈ ints l, u.oneCell' = true := by
  intro u hu
  obtain ⟨x, _, rfl⟩ := List.mem_map.1 hu
  rfl

def gqCells (r : Rq) (vi vb vo : Value) : List Value :=
  [.int .i64 r.pl.retries, .int .i64 r.pl.hedges, .int .i64 r.pl.after, .int .i64 r.pl.per, .int .i64 r.pl.total, .bool r.pl.safe, .int .i64 r.since, .int .i64 r.last, .int .i64 r.made, .int .i64 r.again, .int .i64 r.hedged, vi, vb, .bool r.over, .bool r.tame, vo]
def gfoot (p : Nat) (vi vb vo : Value) : Nat → Prop := fun k => k = p ∨ vi.ownBlock = some k ∨ vb.ownBlock = some k ∨ vo.ownBlock = some k

/-- The request at block p: numbers and beginnings in rows of the call's own, apart from one another. -/
structure Gw (w : World) (lo p : Nat) (r : Rq) (I : List Int) (vi : Value) (B : List Int) (vb : Value) (o : List Ac) (vo : Value) : Prop where
  blk : Blk w p (gqCells r vi vb vo) 52
  ids : w.ownsRow lo 3 1 vi I.length (ints I)
  beg : w.ownsRow lo 3 1 vb B.length (ints B)
  out : w.ownsRow lo 66 3 vo o.length (acCells o)
  low : lo ≤ p
  ne : ∀ k, vi.ownBlock = some k → vb.ownBlock ≠ some k

section
variable {w : World} {lo p : Nat} {r : Rq} {I B : List Int} {vi vb vo : Value} {o : List Ac}
theorem Gw.ni (h : Gw w lo p r I vi B vb o vo) : vi.ownBlock ≠ some p := ownsRow_ne h.ids h.blk (by decide)
theorem Gw.nb (h : Gw w lo p r I vi B vb o vo) : vb.ownBlock ≠ some p := ownsRow_ne h.beg h.blk (by decide)
theorem Gw.no (h : Gw w lo p r I vi B vb o vo) : vo.ownBlock ≠ some p := ownsRow_ne h.out h.blk (by decide)
theorem Gw.nio (h : Gw w lo p r I vi B vb o vo) : ∀ k, vi.ownBlock = some k → vo.ownBlock ≠ some k := own_own_ne h.ids h.out (by decide)
theorem Gw.nbo (h : Gw w lo p r I vi B vb o vo) : ∀ k, vb.ownBlock = some k → vo.ownBlock ≠ some k := own_own_ne h.beg h.out (by decide)
theorem Gw.lt (h : Gw w lo p r I vi B vb o vo) : ∀ k, gfoot p vi vb vo k → lo ≤ k ∧ k < w.heap.size := fun k hk => by
  rcases hk with rfl | hk | hk | hk
  · exact ⟨h.low, h.blk.lt⟩
  · exact ownsRow_lt h.ids k hk
  · exact ownsRow_lt h.beg k hk
  · exact ownsRow_lt h.out k hk
theorem Gw.only {S : Nat → Prop} {w' : World} (h : Gw w lo p r I vi B vb o vo) (ho : Only S w w') (hd : ∀ k, gfoot p vi vb vo k → ¬ S k) : Gw w' lo p r I vi B vb o vo :=
  ⟨h.blk.only ho (hd p (.inl rfl)), owns_only h.ids ho (fun k hk => hd k (.inr (.inl hk))), owns_only h.beg ho (fun k hk => hd k (.inr (.inr (.inl hk)))), owns_only h.out ho (fun k hk => hd k (.inr (.inr (.inr hk)))), h.low, h.ne⟩
/-- A field that is no row is turned. -/
theorem Gw.setF (h : Gw w lo p r I vi B vb o vo) {r' : Rq} {i : Nat} {u : Value} (e : gqCells r' vi vb vo = (gqCells r vi vb vo).set i u) :
    Gw (w.setCell ⟨p, i, none⟩ u) lo p r' I vi B vb o vo ∧ Mv (fun k => k = p) (fun k => k = p) w (w.setCell ⟨p, i, none⟩ u) :=
  ⟨⟨by rw [e]; exact h.blk.set i u, owns_only h.ids (only_p w p i u) (fun k hk e => h.ni (by rw [hk, e])), owns_only h.beg (only_p w p i u) (fun k hk e => h.nb (by rw [hk, e])), owns_only h.out (only_p w p i u) (fun k hk e => h.no (by rw [hk, e])), h.low, h.ne⟩,
    only_p w p i u, fun k hk => .inl hk⟩
/-- r.out = another row. -/
theorem Gw.setOut (h : Gw w lo p r I vi B vb o vo) {v : Value} {o' : List Ac} (hown : w.ownsRow lo 66 3 v o'.length (acCells o')) (hp : v.ownBlock ≠ some p) : Gw (w.setCell ⟨p, 15, none⟩ v) lo p r I vi B vb o' v :=
  ⟨h.blk.set 15 v, owns_only h.ids (only_p w p 15 v) (fun k hk e => h.ni (by rw [hk, e])), owns_only h.beg (only_p w p 15 v) (fun k hk e => h.nb (by rw [hk, e])), owns_only hown (only_p w p 15 v) (fun k hk e => hp (by rw [hk, e])), h.low, h.ne⟩
/-- r.IDs = another row. -/
theorem Gw.setIds (h : Gw w lo p r I vi B vb o vo) {v : Value} {I' : List Int} (hown : w.ownsRow lo 3 1 v I'.length (ints I')) (hp : v.ownBlock ≠ some p) (hne : ∀ k, v.ownBlock = some k → vb.ownBlock ≠ some k) : Gw (w.setCell ⟨p, 11, none⟩ v) lo p r I' v B vb o vo :=
  ⟨h.blk.set 11 v, owns_only hown (only_p w p 11 v) (fun k hk e => hp (by rw [hk, e])), owns_only h.beg (only_p w p 11 v) (fun k hk e => h.nb (by rw [hk, e])), owns_only h.out (only_p w p 11 v) (fun k hk e => h.no (by rw [hk, e])), h.low, hne⟩
/-- r.Begun = another row. -/
theorem Gw.setBeg (h : Gw w lo p r I vi B vb o vo) {v : Value} {B' : List Int} (hown : w.ownsRow lo 3 1 v B'.length (ints B')) (hp : v.ownBlock ≠ some p) (hne : ∀ k, vi.ownBlock = some k → v.ownBlock ≠ some k) : Gw (w.setCell ⟨p, 12, none⟩ v) lo p r I vi B' v o vo :=
  ⟨h.blk.set 12 v, owns_only h.ids (only_p w p 12 v) (fun k hk e => h.ni (by rw [hk, e])), owns_only hown (only_p w p 12 v) (fun k hk e => hp (by rw [hk, e])), owns_only h.out (only_p w p 12 v) (fun k hk e => h.no (by rw [hk, e])), h.low, hne⟩

def pfoot (p : Nat) (vo : Value) : Nat → Prop := fun k => k = p ∨ vo.ownBlock = some k
/-- r.out = append(r.out, ..): numbers and beginnings stay where they are. -/
theorem Gw.appOut (h : Gw w lo p r I vi B vb o vo) {wa w2 : World} {v2 : Value} {n : Nat} {acts : List Ac} (ha : Only (fun _ => False) w wa) (hown : w2.ownsRow lo 66 3 v2 (o.length + acts.length) (acCells o ++ acCells acts))
    (hon : Only (fun i => vo.ownBlock = some i) wa w2) (hat : v2.ownBlock = vo.ownBlock ∨ v2.ownBlock = some n) (hn : w.heap.size ≤ n) :
    Gw (w2.setCell ⟨p, 15, none⟩ v2) lo p r I vi B vb (o ++ acts) v2 ∧ Mv (pfoot p vo) (pfoot p v2) w (w2.setCell ⟨p, 15, none⟩ v2) := by
  have hp := h.blk.lt
  have hn2 : v2.ownBlock ≠ some p := by
    rcases hat with e | e
    · rw [e]; exact h.no
    · rw [e]; simp only [ne_eq, Option.some.injEq]; omega
  have h2 : Blk w2 p (gqCells r vi vb vo) 52 := (h.blk.only ha id).only hon (fun e => h.no e)
  have hi2 := owns_only (owns_only h.ids ha (fun _ _ => id)) hon (fun k hk e => h.nio k hk e)
  have hb2 := owns_only (owns_only h.beg ha (fun _ _ => id)) hon (fun k hk e => h.nbo k hk e)
  refine ⟨⟨h2.set 15 v2, owns_only hi2 (only_p w2 p 15 v2) (fun k hk e => h.ni (by rw [hk, e])), owns_only hb2 (only_p w2 p 15 v2) (fun k hk e => h.nb (by rw [hk, e])), ?_, h.low, h.ne⟩, ?_, fun k hk => ?_⟩
  · rw [List.length_append, acCells_append]
    exact owns_only hown (only_p w2 p 15 v2) (fun k hk e => hn2 (by rw [hk, e]))
  · exact ((ha.mono (fun _ _ h => h.elim)).trans hon (fun k _ e => .inr e)).trans (only_p w2 p 15 v2) (fun k _ e => .inl e)
  · rcases hk with hk | hk
    · exact .inl (.inl hk)
    · rcases hat with e | e
      · exact .inl (.inr (by rw [← e]; exact hk))
      · rw [e] at hk; injection hk with hk; exact .inr (by omega)
/-- r.IDs = append(r.IDs, ..) -/
theorem Gw.appIds (h : Gw w lo p r I vi B vb o vo) {wa w2 : World} {v2 : Value} {n : Nat} {x : Int} (ha : Only (fun _ => False) w wa) (hown : w2.ownsRow lo 3 1 v2 (I.length + 1) (ints I ++ [.int .i64 x]))
    (hon : Only (fun i => vi.ownBlock = some i) wa w2) (hat : v2.ownBlock = vi.ownBlock ∨ v2.ownBlock = some n) (hn : w.heap.size ≤ n) :
    Gw (w2.setCell ⟨p, 11, none⟩ v2) lo p r (I ++ [x]) v2 B vb o vo ∧ Mv (gfoot p vi vb vo) (gfoot p v2 vb vo) w (w2.setCell ⟨p, 11, none⟩ v2) := by
  have hp := h.blk.lt
  have hn2 : v2.ownBlock ≠ some p := by
    rcases hat with e | e
    · rw [e]; exact h.ni
    · rw [e]; simp only [ne_eq, Option.some.injEq]; omega
  have h2 : Blk w2 p (gqCells r vi vb vo) 52 := (h.blk.only ha id).only hon (fun e => h.ni e)
  have hb2 := owns_only (owns_only h.beg ha (fun _ _ => id)) hon (fun k hk e => h.ne k e hk)
  have ho2 := owns_only (owns_only h.out ha (fun _ _ => id)) hon (fun k hk e => h.nio k e hk)
  refine ⟨⟨h2.set 11 v2, ?_, owns_only hb2 (only_p w2 p 11 v2) (fun k hk e => h.nb (by rw [hk, e])), owns_only ho2 (only_p w2 p 11 v2) (fun k hk e => h.no (by rw [hk, e])), h.low, fun k hk hb => ?_⟩, ?_, fun k hk => ?_⟩
  · rw [List.length_append, List.length_singleton, ints_append]
    exact owns_only hown (only_p w2 p 11 v2) (fun k hk e => hn2 (by rw [hk, e]))
  · rcases hat with e | e
    · exact h.ne k (by rw [← e]; exact hk) hb
    · rw [e] at hk; injection hk with hk
      have := (ownsRow_lt h.beg k hb).2
      omega
  · exact ((ha.mono (fun _ _ h => h.elim)).trans hon (fun k _ e => .inr (.inl e))).trans (only_p w2 p 11 v2) (fun k _ e => .inl e)
  · rcases hk with hk | hk | hk | hk
    · exact .inl (.inl hk)
    · rcases hat with e | e
      · exact .inl (.inr (.inl (by rw [← e]; exact hk)))
      · rw [e] at hk; injection hk with hk; exact .inr (by omega)
    · exact .inl (.inr (.inr (.inl hk)))
    · exact .inl (.inr (.inr (.inr hk)))
/-- r.Begun = append(r.Begun, ..) -/
theorem Gw.appBeg (h : Gw w lo p r I vi B vb o vo) {wa w2 : World} {v2 : Value} {n : Nat} {x : Int} (ha : Only (fun _ => False) w wa) (hown : w2.ownsRow lo 3 1 v2 (B.length + 1) (ints B ++ [.int .i64 x]))
    (hon : Only (fun i => vb.ownBlock = some i) wa w2) (hat : v2.ownBlock = vb.ownBlock ∨ v2.ownBlock = some n) (hn : w.heap.size ≤ n) :
    Gw (w2.setCell ⟨p, 12, none⟩ v2) lo p r I vi (B ++ [x]) v2 o vo ∧ Mv (gfoot p vi vb vo) (gfoot p vi v2 vo) w (w2.setCell ⟨p, 12, none⟩ v2) := by
  have hp := h.blk.lt
  have hn2 : v2.ownBlock ≠ some p := by
    rcases hat with e | e
    · rw [e]; exact h.nb
    · rw [e]; simp only [ne_eq, Option.some.injEq]; omega
  have h2 : Blk w2 p (gqCells r vi vb vo) 52 := (h.blk.only ha id).only hon (fun e => h.nb e)
  have hi2 := owns_only (owns_only h.ids ha (fun _ _ => id)) hon (fun k hk e => h.ne k hk e)
  have ho2 := owns_only (owns_only h.out ha (fun _ _ => id)) hon (fun k hk e => h.nbo k e hk)
  refine ⟨⟨h2.set 12 v2, owns_only hi2 (only_p w2 p 12 v2) (fun k hk e => h.ni (by rw [hk, e])), ?_, owns_only ho2 (only_p w2 p 12 v2) (fun k hk e => h.no (by rw [hk, e])), h.low, fun k hk hb => ?_⟩, ?_, fun k hk => ?_⟩
  · rw [List.length_append, List.length_singleton, ints_append]
    exact owns_only hown (only_p w2 p 12 v2) (fun k hk e => hn2 (by rw [hk, e]))
  · rcases hat with e | e
    · exact h.ne k hk (by rw [← e]; exact hb)
    · rw [e] at hb; injection hb with hb
      have := (ownsRow_lt h.ids k hk).2
      omega
  · exact ((ha.mono (fun _ _ h => h.elim)).trans hon (fun k _ e => .inr (.inr (.inl e)))).trans (only_p w2 p 12 v2) (fun k _ e => .inl e)
  · rcases hk with hk | hk | hk | hk
    · exact .inl (.inl hk)
    · exact .inl (.inr (.inl hk))
    · rcases hat with e | e
      · exact .inl (.inr (.inr (.inl (by rw [← e]; exact hk))))
      · rw [e] at hk; injection hk with hk; exact .inr (by omega)
    · exact .inl (.inr (.inr (.inr hk)))
theorem Mv.widen {F F' G : Nat → Prop} {a b : World} (h : Mv F F' a b) (hF : ∀ k, F k → G k) : Mv G (fun k => F' k ∨ G k) a b :=
  ⟨h.only.mono (fun k _ hk => hF k hk), fun k hk => hk.elim (fun hk => (h.new_ k hk).imp (hF k) (fun h => h)) .inl⟩
end
theorem Try.info66 : (Try.prog.info? 66).map (fun i => (i.zero, i.size, i.bytes)) = some (some (.agg #[.int .i64 0, .int .i64 0, .int .i64 0]), 3, 24) := by kernel_rfl
end Go.Proofs.Ytlcblfkmadjppaa
