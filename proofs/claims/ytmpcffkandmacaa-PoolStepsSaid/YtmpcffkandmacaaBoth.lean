/- A pool and the reference's, side by side. -/
import Derived.Test.YtmpcffkandmacaaGWalks9
namespace Go.Proofs.Ytmpcffkandmacaa
open Go.RowKit
set_option linter.unusedVariables false
set_option linter.unusedSimpArgs false

structure D2X (w0 w : World) (p g : Nat) (P Q : Pp) (K : Kept) (R : List Rowd) (X : List (Nat × Cn)) (vl vw : Value) (Rs : List Nat) (gl gr gw : Value) : Prop where
  pw : Pw w w0.heap.size p P X vl vw
  gp : Gw w w0.heap.size g Q Rs gl gr gw
  rel : Rel Q Rs
  below : Below w0.heap.size w0 w
  dis : ∀ k, foot p X vl vw k → ¬ gfoot g gl gr gw k
  k : ∀ x ∈ K, Blk w x.1 x.2.1 x.2.2 ∧ w0.heap.size ≤ x.1 ∧ ¬ foot p X vl vw x.1 ∧ ¬ gfoot g gl gr gw x.1
  r : ∀ x ∈ R, w.ownsRow w0.heap.size x.e x.size x.v x.n x.xs ∧ ∀ k, x.v.ownBlock = some k → ¬ foot p X vl vw k ∧ ¬ gfoot g gl gr gw k
def D2 (w0 w : World) (p g : Nat) (P Q : Pp) (K : Kept) (R : List Rowd) : Prop := ∃ X vl vw Rs gl gr gw, D2X w0 w p g P Q K R X vl vw Rs gl gr gw
def acRow82 (v : Value) (l : List Ac) : Rowd := ⟨v, 82, 3, l.length, acCells l⟩

section
variable {w0 w w' : World} {p g : Nat} {P Q P' Q' : Pp} {K : Kept} {R : List Rowd} {X : List (Nat × Cn)} {vl vw : Value} {Rs : List Nat} {gl gr gw : Value}
theorem D2X.pp (h : D2X w0 w p g P Q K R X vl vw Rs gl gr gw) : PP (foot p X vl vw) w w w0.heap.size p P := ⟨X, vl, vw, h.pw, Mv.refl _ _⟩
theorem D2X.gq (h : D2X w0 w p g P Q K R X vl vw Rs gl gr gw) : GQ (gfoot g gl gr gw) w w w0.heap.size g Q := ⟨Rs, h.rel, GP.refl h.gp⟩
theorem D2X.call (h : D2X w0 w p g P Q K R X vl vw Rs gl gr gw) (hc : PP (foot p X vl vw) w w' w0.heap.size p P') : D2 w0 w' p g P' Q K R := by
  obtain ⟨X', vl', vw', hp, hm⟩ := hc
  have key : ∀ k, k < w.heap.size → ¬ foot p X vl vw k → ¬ foot p X' vl' vw' k := fun k hk hn hf => by
    rcases hm.new_ k hf with h | h
    · exact hn h
    · omega
  refine ⟨X', vl', vw', Rs, gl, gr, gw, hp, h.gp.only hm.only (fun k hk hf => h.dis k hf hk), h.rel, h.below.trans (hm.only.below h.below.size (fun i hi => (h.pw.lt i hi).1)), fun k hk hg => ?_, fun x hx => ?_, fun x hx => ?_⟩
  · rcases hm.new_ k hk with h' | h'
    · exact h.dis k h' hg
    · have := (h.gp.lt k hg).2; omega
  · obtain ⟨a, b, c, d⟩ := h.k x hx
    exact ⟨a.only hm.only c, b, key _ a.lt c, d⟩
  · obtain ⟨a, b⟩ := h.r x hx
    exact ⟨owns_only a hm.only (fun k hk => (b k hk).1), fun k hk => ⟨key k (ownsRow_lt a k hk).2 (b k hk).1, (b k hk).2⟩⟩
theorem D2X.gcall (h : D2X w0 w p g P Q K R X vl vw Rs gl gr gw) (hc : GQ (gfoot g gl gr gw) w w' w0.heap.size g Q') : D2 w0 w' p g P Q' K R := by
  obtain ⟨Rs', hrel, gl', gr', gw', hp, hm⟩ := hc
  have key : ∀ k, k < w.heap.size → ¬ gfoot g gl gr gw k → ¬ gfoot g gl' gr' gw' k := fun k hk hn hf => by
    rcases hm.new_ k hf with h | h
    · exact hn h
    · omega
  refine ⟨X, vl, vw, Rs', gl', gr', gw', h.pw.only hm.only (fun k hk hf => h.dis k hk hf), hp, hrel, h.below.trans (hm.only.below h.below.size (fun i hi => (h.gp.lt i hi).1)), fun k hk hg => ?_, fun x hx => ?_, fun x hx => ?_⟩
  · rcases hm.new_ k hg with h' | h'
    · exact h.dis k hk h'
    · have := (h.pw.lt k hk).2; omega
  · obtain ⟨a, b, c, d⟩ := h.k x hx
    exact ⟨a.only hm.only d, b, c, key _ a.lt d⟩
  · obtain ⟨a, b⟩ := h.r x hx
    exact ⟨owns_only a hm.only (fun k hk => (b k hk).2), fun k hk => ⟨(b k hk).1, key k (ownsRow_lt a k hk).2 (b k hk).2⟩⟩
theorem D2.size (h : D2 w0 w p g P Q K R) : w0.heap.size ≤ w.heap.size := by
  obtain ⟨X, vl, vw, Rs, gl, gr, gw, h⟩ := h
  exact h.below.size
theorem D2.below (h : D2 w0 w p g P Q K R) : Below w0.heap.size w0 w := by
  obtain ⟨X, vl, vw, Rs, gl, gr, gw, h⟩ := h
  exact h.below
theorem D2.only0 (h : D2 w0 w p g P Q K R) (ho : Only (fun _ => False) w w') : D2 w0 w' p g P Q K R := by
  obtain ⟨X, vl, vw, Rs, gl, gr, gw, h⟩ := h
  exact h.call (h.pp.only0 ho)
theorem D2.weak {K' : Kept} {R' : List Rowd} (h : D2 w0 w p g P Q K R) (hK : ∀ x ∈ K', x ∈ K) (hR : ∀ x ∈ R', x ∈ R) : D2 w0 w p g P Q K' R' := by
  obtain ⟨X, vl, vw, Rs, gl, gr, gw, h⟩ := h
  exact ⟨X, vl, vw, Rs, gl, gr, gw, h.pw, h.gp, h.rel, h.below, h.dis, fun x hx => h.k x (hK x hx), fun x hx => h.r x (hR x hx)⟩
theorem D2.kept (h : D2 w0 w p g P Q K R) {q : Nat} {cs : List Value} {t : TypeId} (hm : (q, cs, t) ∈ K) : Blk w q cs t := by
  obtain ⟨X, vl, vw, Rs, gl, gr, gw, h⟩ := h
  exact (h.k _ hm).1
theorem D2.rowd (h : D2 w0 w p g P Q K R) {x : Rowd} (hm : x ∈ R) : w.ownsRow w0.heap.size x.e x.size x.v x.n x.xs := by
  obtain ⟨X, vl, vw, Rs, gl, gr, gw, h⟩ := h
  exact (h.r _ hm).1
theorem D2.new_ (h : D2 w0 w p g P Q K R) (cs : List Value) (t : TypeId) : D2 w0 (w.alloc (.cells cs.toArray t)) p g P Q ((w.heap.size, cs, t) :: K) R := by
  have hs := h.size
  obtain ⟨X, vl, vw, Rs, gl, gr, gw, h⟩ := h
  have ho : Only (fun _ => False) w (w.alloc (.cells cs.toArray t)) := (Only.refl _ _).alloc _
  refine ⟨X, vl, vw, Rs, gl, gr, gw, h.pw.only ho (fun _ _ h => h), h.gp.only0 ho, h.rel, h.below.trans (ho.below hs (fun _ h => h.elim)), h.dis, fun x hx => ?_, fun x hx => ?_⟩
  · rcases List.mem_cons.1 hx with rfl | hx
    · exact ⟨Blk.new w cs t, hs, fun hf => absurd (h.pw.lt _ hf).2 (Nat.lt_irrefl _), fun hf => absurd (h.gp.lt _ hf).2 (Nat.lt_irrefl _)⟩
    · obtain ⟨a, b, c⟩ := h.k x hx
      exact ⟨a.only ho (fun h => h), b, c⟩
  · obtain ⟨a, b⟩ := h.r x hx
    exact ⟨owns_only a ho (fun _ _ h => h), b⟩
theorem D2.step_ (h : D2 w0 w p g P Q K R) (k n d : Int) (t : TypeId) : D2 w0 (w.alloc (Obj.cells #[.int .i64 k, .int .i64 n, .int .i64 d] t)) p g P Q ((w.heap.size, [.int .i64 k, .int .i64 n, .int .i64 d], t) :: K) R := h.new_ [.int .i64 k, .int .i64 n, .int .i64 d] t
theorem D2X.callA {v : Value} {o : List Ac} (h : D2X w0 w p g P Q K R X vl vw Rs gl gr gw) (hc : AcP (foot p X vl vw) w w w' w0.heap.size p P' v o) : D2 w0 w' p g P' Q K (acRow v o :: R) := by
  have hs := h.below.size
  obtain ⟨X', vl', vw', Rs', gl', gr', gw', h'⟩ := h.call hc.pp
  refine ⟨X', vl', vw', Rs', gl', gr', gw', h'.pw, h'.gp, h'.rel, h'.below, h'.dis, h'.k, fun x hx => ?_⟩
  rcases List.mem_cons.1 hx with rfl | hx
  · exact ⟨ownsRow_lower hc.row hs, fun k hk => ⟨h'.pw.row_ne hc.row (by decide) (by decide) (by decide) (by decide) k hk, h'.gp.row_ne hc.row (by decide) (by decide) (by decide) k hk⟩⟩
  · exact h'.r x hx
theorem D2X.gcallA {v : Value} {o : List Ac} (h : D2X w0 w p g P Q K R X vl vw Rs gl gr gw) (hc : GAcP (gfoot g gl gr gw) w w w' w0.heap.size g Q' v o) : D2 w0 w' p g P Q' K (acRow82 v o :: R) := by
  have hs := h.below.size
  obtain ⟨X', vl', vw', Rs', gl', gr', gw', h'⟩ := h.gcall hc.pp
  refine ⟨X', vl', vw', Rs', gl', gr', gw', h'.pw, h'.gp, h'.rel, h'.below, h'.dis, h'.k, fun x hx => ?_⟩
  rcases List.mem_cons.1 hx with rfl | hx
  · exact ⟨ownsRow_lower hc.row hs, fun k hk => ⟨h'.pw.row_ne hc.row (by decide) (by decide) (by decide) (by decide) k hk, h'.gp.row_ne hc.row (by decide) (by decide) (by decide) k hk⟩⟩
  · exact h'.r x hx
theorem D2.act27 (h : D2 w0 w p g P Q K R) {v : Value} {o : List Ac} (hm : acRow v o ∈ R) : ActRow w v o := actRow_of (h.rowd hm)
theorem D2.act82 (h : D2 w0 w p g P Q K R) {v : Value} {o : List Ac} (hm : acRow82 v o ∈ R) : ActRow w v o := actRow_of (h.rowd hm)

variable {k : Nat}
theorem d_ask (h : D2 w0 w p g P Q K R) (hk : Okp P k) (hk9 : k < 9223372036854775807) (now who : Int) :
    Calls Try.prog 9 #[ptr p, .int .i64 now, .int .i64 who] w fun e w' => e = .returned (.tuple #[acV (ask P now who).2.1, .int .i64 (ask P now who).2.2]) ∧ D2 w0 w' p g (ask P now who).1 Q K R := by
  obtain ⟨X, vl, vw, Rs, gl, gr, gw, h⟩ := h
  exact (ask_any h.pp hk hk9 now who).mono (by rintro e w' ⟨rfl, hP⟩; exact ⟨rfl, h.call hP⟩)
theorem e_ask (h : D2 w0 w p g P Q K R) (hk : Okp Q k) (hk9 : k < 9223372036854775807) (now who : Int) :
    Calls Try.prog 37 #[ptr g, .int .i64 now, .int .i64 who] w fun e w' => e = .returned (.tuple #[acV (ask Q now who).2.1, .int .i64 (ask Q now who).2.2]) ∧ D2 w0 w' p g P (ask Q now who).1 K R := by
  obtain ⟨X, vl, vw, Rs, gl, gr, gw, h⟩ := h
  exact (gask_any h.gq hk hk9 now who).mono (by rintro e w' ⟨rfl, hP⟩; exact ⟨rfl, h.gcall hP⟩)
theorem d_up (h : D2 w0 w p g P Q K R) (n : Int) : Calls Try.prog 10 #[ptr p, .int .i64 n] w fun e w' => e = .returned (.tuple #[.int .i64 (up P n).2.1, .int .i64 (up P n).2.2]) ∧ D2 w0 w' p g (up P n).1 Q K R := by
  obtain ⟨X, vl, vw, Rs, gl, gr, gw, h⟩ := h
  exact (up_any h.pp n).mono (by rintro e w' ⟨rfl, hP⟩; exact ⟨rfl, h.call hP⟩)
theorem e_up (h : D2 w0 w p g P Q K R) (n : Int) : Calls Try.prog 39 #[ptr g, .int .i64 n] w fun e w' => e = .returned (.tuple #[.int .i64 (up Q n).2.1, .int .i64 (up Q n).2.2]) ∧ D2 w0 w' p g P (up Q n).1 K R := by
  obtain ⟨X, vl, vw, Rs, gl, gr, gw, h⟩ := h
  exact (gup_any h.gq n).mono (by rintro e w' ⟨rfl, hP⟩; exact ⟨rfl, h.gcall hP⟩)
theorem d_gone (h : D2 w0 w p g P Q K R) (hk : Okp P k) (hk9 : k < 9223372036854775807) (now n : Int) :
    Calls Try.prog 36 #[ptr p, .int .i64 now, .int .i64 n] w fun e w' => ∃ v, e = .returned (.tuple #[.int .i64 (gone P now n).2.1, v, .int .i64 (gone P now n).2.2.2]) ∧ D2 w0 w' p g (gone P now n).1 Q K (acRow v (gone P now n).2.2.1 :: R) := by
  obtain ⟨X, vl, vw, Rs, gl, gr, gw, h⟩ := h
  exact (gone_any h.pp hk hk9 now n).mono (by rintro e w' ⟨v, rfl, hP⟩; exact ⟨v, rfl, h.callA hP⟩)
theorem e_gone (h : D2 w0 w p g P Q K R) (hk : Okp Q k) (hk9 : k < 9223372036854775807) (now n : Int) :
    Calls Try.prog 40 #[ptr g, .int .i64 now, .int .i64 n] w fun e w' => ∃ v, e = .returned (.tuple #[.int .i64 (gone Q now n).2.1, v, .int .i64 (gone Q now n).2.2.2]) ∧ D2 w0 w' p g P (gone Q now n).1 K (acRow82 v (gone Q now n).2.2.1 :: R) := by
  obtain ⟨X, vl, vw, Rs, gl, gr, gw, h⟩ := h
  exact (ggone_any h.gq hk hk9 now n).mono (by rintro e w' ⟨v, rfl, hP⟩; exact ⟨v, rfl, h.gcallA hP⟩)
theorem d_done (h : D2 w0 w p g P Q K R) (hk : Okp P k) (hk9 : k + 1 < 9223372036854775807) (now n : Int) (keep : Bool) :
    Calls Try.prog 11 #[ptr p, .int .i64 now, .int .i64 n, .bool keep] w fun e w' => ∃ v, e = .returned (.tuple #[v, .int .i64 (done P now n keep).2.2]) ∧ D2 w0 w' p g (done P now n keep).1 Q K (acRow v (done P now n keep).2.1 :: R) := by
  obtain ⟨X, vl, vw, Rs, gl, gr, gw, h⟩ := h
  exact (done_any h.pp hk hk9 now n keep).mono (by rintro e w' ⟨v, rfl, hP⟩; exact ⟨v, rfl, h.callA hP⟩)
theorem e_done (h : D2 w0 w p g P Q K R) (hk : Okp Q k) (hk9 : k + 1 < 9223372036854775807) (now n : Int) (keep : Bool) :
    Calls Try.prog 41 #[ptr g, .int .i64 now, .int .i64 n, .bool keep] w fun e w' => ∃ v, e = .returned (.tuple #[v, .int .i64 (done Q now n keep).2.2]) ∧ D2 w0 w' p g P (done Q now n keep).1 K (acRow82 v (done Q now n keep).2.1 :: R) := by
  obtain ⟨X, vl, vw, Rs, gl, gr, gw, h⟩ := h
  exact (gdone_any h.gq hk hk9 now n keep).mono (by rintro e w' ⟨v, rfl, hP⟩; exact ⟨v, rfl, h.gcallA hP⟩)
theorem d_drop (h : D2 w0 w p g P Q K R) (hk : Okp P k) (hk9 : k < 9223372036854775807) (now who : Int) :
    Calls Try.prog 14 #[ptr p, .int .i64 now, .int .i64 who] w fun e w' => ∃ v, e = .returned (.tuple #[v, .int .i64 (drop P now who).2.2]) ∧ D2 w0 w' p g (drop P now who).1 Q K (acRow v (drop P now who).2.1 :: R) := by
  obtain ⟨X, vl, vw, Rs, gl, gr, gw, h⟩ := h
  exact (drop_any h.pp hk hk9 now who).mono (by rintro e w' ⟨v, rfl, hP⟩; exact ⟨v, rfl, h.callA hP⟩)
theorem e_drop (h : D2 w0 w p g P Q K R) (hk : Okp Q k) (hk9 : k < 9223372036854775807) (now who : Int) :
    Calls Try.prog 42 #[ptr g, .int .i64 now, .int .i64 who] w fun e w' => ∃ v, e = .returned (.tuple #[v, .int .i64 (drop Q now who).2.2]) ∧ D2 w0 w' p g P (drop Q now who).1 K (acRow82 v (drop Q now who).2.1 :: R) := by
  obtain ⟨X, vl, vw, Rs, gl, gr, gw, h⟩ := h
  exact (gdrop_any h.gq hk hk9 now who).mono (by rintro e w' ⟨v, rfl, hP⟩; exact ⟨v, rfl, h.gcallA hP⟩)
theorem d_expire (h : D2 w0 w p g P Q K R) (hk : Okp P k) (hk9 : k < 9223372036854775807) (now : Int) :
    Calls Try.prog 15 #[ptr p, .int .i64 now] w fun e w' => ∃ v, e = .returned (.tuple #[v, .int .i64 (expire P now).2.2]) ∧ D2 w0 w' p g (expire P now).1 Q K (acRow v (expire P now).2.1 :: R) := by
  obtain ⟨X, vl, vw, Rs, gl, gr, gw, h⟩ := h
  exact (expire_any h.pp hk hk9 now).mono (by rintro e w' ⟨v, rfl, hP⟩; exact ⟨v, rfl, h.callA hP⟩)
theorem e_expire (h : D2 w0 w p g P Q K R) (hk : Okp Q k) (hk9 : k < 9223372036854775807) (now : Int) :
    Calls Try.prog 43 #[ptr g, .int .i64 now] w fun e w' => ∃ v, e = .returned (.tuple #[v, .int .i64 (expire Q now).2.2]) ∧ D2 w0 w' p g P (expire Q now).1 K (acRow82 v (expire Q now).2.1 :: R) := by
  obtain ⟨X, vl, vw, Rs, gl, gr, gw, h⟩ := h
  exact (gexpire_any h.gq hk hk9 now).mono (by rintro e w' ⟨v, rfl, hP⟩; exact ⟨v, rfl, h.gcallA hP⟩)
end
end Go.Proofs.Ytmpcffkandmacaa
