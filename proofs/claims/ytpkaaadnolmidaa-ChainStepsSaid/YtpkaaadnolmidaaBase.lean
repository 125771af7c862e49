/- Chains as the walks see them: the program's ring, the reference's row; and what is plain about them. -/
import Derived.Test.YtpkaaadnolmidaaProg
import Derived.Test.YtpkaaadnolmidaaLib
import Derived.Laws.CopyOwn
namespace Go.Proofs.Ytpkaaadnolmidaa
open Go.RowKit
set_option linter.unusedVariables false

/-- copy(dst, src): both in one, the place and the cells given; the row behind it is the splice. -/
theorem wpList_copy_blk {P : Program} {w : World} {ops : Array Oper} {rest : List Oper} {o : Oper} {a : Act} {Q : Exit → Act → World → Prop} (hgd : o.guard = none) (d s : Operand) (dT sT : TypeId)
    (ho : o.op = .call { callee := .builtin .copy, args := #[d, s], argTypes := #[dT, sT] }) (elem : TypeId) (hu : P.underlying dT = some (.slice elem)) (hsz : (P.info? elem).map (·.size) = some 1)
    (dp sp : Option Addr) (dLen dCap sLen sCap : Nat) (hd : a.eval d = .slice dp dLen dCap) (hs : a.eval s = .slice sp sLen sCap)
    (g off : Nat) (cur : List Value) (t : TypeId) (hg : Blk w g cur t) (cs : List Value) (hn : cs.length = min sLen dLen)
    (hpos : 0 < cs.length → dp = some ⟨g, off, none⟩ ∧ ∃ ad, sp = some ad ∧ ∀ j v, cs[j]? = some v → w.cell? (ad.add j) = some v)
    (hfit : off + cs.length ≤ cur.length) (h1 : ∀ v ∈ cs, v.oneCell' = true)
    (h : ∀ w', Blk w' g (splice cur off cs) t → Only (fun k => k = g) w w' → wpList P ops Q rest (a.put o.dst (goInt cs.length)) w') :
    wpList P ops Q (o :: rest) a w := by
  by_cases h0 : cs.length = 0
  · obtain rfl : cs = [] := List.eq_nil_of_length_eq_zero h0
    refine wpList_copy_nothing hgd d s dT sT ho elem hu hsz dp sp dLen dCap sLen sCap hd hs (by simpa using hn.symm) ?_
    exact h w (by simpa [splice] using hg) (Only.refl _ _)
  · obtain ⟨rfl, ad, rfl, hsrc⟩ := hpos (by omega)
    refine wpList_copy_own hgd d s dT sT ho elem hu hsz g off dLen dCap ad sLen sCap hd hs cur.toArray t hg cs hn hsrc (by simpa using hfit) h1 ?_
    refine h _ ?_ ((Only.refl (fun k => k = g) w).setRow (fun _ => rfl) _)
    show _ = _
    simpa [splice] using setRow_heap w g _ _ t _ hg

def bytes (L : List Int) : List Value := L.map (Value.int .u8)
theorem bytes_length (L : List Int) : (bytes L).length = L.length := List.length_map ..
theorem bytes_get (L : List Int) (i : Nat) (h : i < L.length) : (bytes L)[i]? = some (.int .u8 (L.getD i 0)) := by
  unfold bytes
  rw [List.getElem?_map, List.getElem?_eq_getElem h, List.getD_eq_getElem?_getD, List.getElem?_eq_getElem h]
  rfl
theorem bytes_one (L : List Int) : ∀ v ∈ bytes L, v.oneCell' = true := by
  intro v hv
  obtain ⟨_, _, rfl⟩ := List.mem_map.1 hv
  rfl
theorem bytes_splice (r : List Int) (off : Nat) (cs : List Int) : splice (bytes r) off (bytes cs) = bytes (splice r off cs) := by
  unfold splice bytes
  simp only [List.map_append, List.map_take, List.map_drop, List.length_map]
theorem splice_getD (l cs : List Int) (off j : Nat) (h : off + cs.length ≤ l.length) :
    (splice l off cs).getD j 0 = if off ≤ j ∧ j < off + cs.length then cs.getD (j - off) 0 else l.getD j 0 := by
  unfold splice
  simp only [List.getD_eq_getElem?_getD]
  have hl : (l.take off).length = off := by rw [List.length_take]; omega
  by_cases h1 : j < off
  · rw [if_neg (by omega), List.getElem?_append_left (by omega), List.getElem?_take, if_pos h1]
  · rw [List.getElem?_append_right (by omega), hl]
    by_cases h2 : j < off + cs.length
    · rw [if_pos ⟨by omega, h2⟩, List.getElem?_append_left (by omega)]
    · rw [if_neg (by omega), List.getElem?_append_right (by omega), List.getElem?_drop]
      congr 2
      omega

/-- The ring's value. -/
def ringVal : Option Nat → List Int → Value
  | none, _ => .slice none 0 0
  | some g, r => .slice (some ⟨g, 0, none⟩) r.length r.length

/-- A program's chain at block p: its ring r (in block g, if there is one), whose n bytes from fr on are L. -/
structure Ch (w : World) (p : Nat) (g : Option Nat) (r : List Int) (fr : Nat) (bound high low : Nat) (L : List Int) (stop : Bool) : Prop where
  blk : Blk w p [.int .i64 bound, .int .i64 high, .int .i64 low, ringVal g r, .int .i64 fr, .int .i64 L.length, .bool stop] 47
  nil : g = none → r = [] ∧ L = []
  ring : ∀ k, g = some k → Blk w k (bytes r) 5 ∧ k ≠ p ∧ fr < r.length
  fit : L.length ≤ r.length
  max : r.length ≤ bound
  most : bound ≤ 1048576
  marks : low < high ∧ high ≤ bound
  at_ : ∀ i, i < L.length → r.getD ((fr + i) % r.length) 0 = L.getD i 0

/-- The blocks that are a chain's own. -/
def foot (p : Nat) (g : Option Nat) : Nat → Prop := fun k => k = p ∨ g = some k

theorem Ch.only {S : Nat → Prop} {w w' : World} {p : Nat} {g : Option Nat} {r : List Int} {fr bound high low : Nat} {L : List Int} {stop : Bool} (h : Ch w p g r fr bound high low L stop) (ho : Only S w w')
    (hd : ∀ k, foot p g k → ¬ S k) : Ch w' p g r fr bound high low L stop :=
  ⟨h.blk.only ho (hd p (.inl rfl)), h.nil, fun k hk => ⟨(h.ring k hk).1.only ho (hd k (.inr hk)), (h.ring k hk).2⟩, h.fit, h.max, h.most, h.marks, h.at_⟩
theorem Ch.drawn {w w' : World} {p : Nat} {g : Option Nat} {r : List Int} {fr bound high low : Nat} {L : List Int} {stop : Bool} (h : Ch w p g r fr bound high low L stop) (hd : Drawn w w') : Ch w' p g r fr bound high low L stop :=
  h.only (hd.only (fun _ => False)) (fun _ _ => id)
theorem Ch.lt {w : World} {p : Nat} {g : Option Nat} {r : List Int} {fr bound high low : Nat} {L : List Int} {stop : Bool} (h : Ch w p g r fr bound high low L stop) : ∀ k, foot p g k → k < w.heap.size := by
  rintro k (rfl | hk)
  · exact h.blk.lt
  · exact (h.ring k hk).1.lt

/-- A slice that the call made: nil, or the whole of a block of its own. -/
def OwnBytes (w : World) (lo : Nat) (v : Value) (L : List Int) : Prop :=
  (v = .slice none 0 0 ∧ L = []) ∨ ∃ g, v = .slice (some ⟨g, 0, none⟩) L.length L.length ∧ lo ≤ g ∧ Blk w g (bytes L) 5 ∧ L ≠ []

theorem mod_two {a R : Nat} (h : a < 2 * R) : a % R = if a < R then a else a - R := by
  by_cases h1 : a < R
  · rw [if_pos h1, Nat.mod_eq_of_lt h1]
  · rw [if_neg h1, Nat.mod_eq_sub_mod (by omega), Nat.mod_eq_of_lt (by omega)]


/-- make([]T, n), a T of one cell: a new block of n zeros. -/
theorem wpList_make_blk {P : Program} (w : World) {ops : Array Oper} {rest : List Oper} {o : Oper} {a : Act} {Q : Exit → Act → World → Prop}
    (hg : o.guard = none) (l c : Operand) (t : TypeId) (hop : o.op = Op.makeSlice t l c)
    (e : TypeId) (i : TypeInfo) (z : Value) (h1 : P.underlying t = some (.slice e)) (h2 : P.info? e = some i) (h3 : i.zero = some z) (h4 : i.size = 1) (hz : z.cells = #[z])
    (kl kc : IntKind) (L C : Int) (n : Nat) (hl : a.eval l = .int kl L) (hc : a.eval c = .int kc C) (hL : L = (n : Int)) (hC : C = (n : Int)) (b2 : i.bytes * n ≤ 281474976710656) (b3 : n ≤ maxLen)
    (hK : ∀ w', Blk w' w.heap.size (List.replicate n z) e → Only (fun _ => False) w w' → wpList P ops Q rest (a.put o.dst (.slice (some ⟨w.heap.size, 0, none⟩) n n)) w') :
    wpList P ops Q (o :: rest) a w := by
  refine wpList_make_full w hg l c t hop w.heap.size e i z 1 h1 h2 h3 h4 kl kc L C n hl hc hL hC b2 b3 (Nat.le_refl _) fun w' hown hgr => hK w' ?_ ((Only.refl (fun _ => False) w).grown hgr (fun k hk => by cases hk))
  rcases hown.2 with ⟨hh, _⟩ | ⟨g, cap, cur, hv, _, hb, _, _, hsz, htk⟩
  · cases hh
  · injection hv with ha hn hcap
    injection ha with ha
    injection ha with ha _ _
    subst ha
    subst hcap
    rw [Nat.mul_one] at hsz htk
    rw [List.take_of_length_le (by rw [Array.length_toList]; omega), hz, toList_madeCells_one] at htk
    show _ = _
    rw [hb, ← htk, Array.toArray_toList]

theorem ext_getD {l m : List Int} (hl : l.length = m.length) (h : ∀ i, i < l.length → l.getD i 0 = m.getD i 0) : l = m := by
  refine List.ext_getElem hl fun i h1 h2 => ?_
  have := h i h1
  simpa [List.getD_eq_getElem?_getD, List.getElem?_eq_getElem h1, List.getElem?_eq_getElem h2] using this
theorem getD_take (l : List Int) (k i : Nat) (h : i < k) : (l.take k).getD i 0 = l.getD i 0 := by
  simp only [List.getD_eq_getElem?_getD, List.getElem?_take, if_pos h]
theorem getD_drop (l : List Int) (k i : Nat) : (l.drop k).getD i 0 = l.getD (k + i) 0 := by
  simp only [List.getD_eq_getElem?_getD, List.getElem?_drop]
theorem getD_append (l m : List Int) (i : Nat) : (l ++ m).getD i 0 = if i < l.length then l.getD i 0 else m.getD (i - l.length) 0 := by
  simp only [List.getD_eq_getElem?_getD]
  by_cases h : i < l.length
  · rw [if_pos h, List.getElem?_append_left h]
  · rw [if_neg h, List.getElem?_append_right (by omega)]
theorem map_replicate_zero (n : Nat) : List.replicate n (Value.int .u8 0) = bytes (List.replicate n 0) := by
  unfold bytes
  rw [List.map_replicate]

/-- The cells of a piece of a row lie where the piece begins. -/
theorem src_cells {W : World} {g t : Nat} {r : List Int} (h : Blk W g (bytes r) t) (off m : Nat) :
    ∀ j v, (bytes ((r.drop off).take m))[j]? = some v → W.cell? ((⟨g, off, none⟩ : Addr).add j) = some v := by
  intro j v hv
  have hb := bytes_length ((r.drop off).take m)
  have hj : j < ((r.drop off).take m).length := by
    have := (List.getElem?_eq_some_iff.1 hv).1
    omega
  rw [Go.WideShapes.add_plain, h.cellAt]
  rw [bytes_get _ _ hj] at hv
  simp only [List.length_take, List.length_drop] at hj
  rw [bytes_get _ _ (by omega), ← hv, getD_take _ _ _ (by omega), getD_drop]
theorem src_head {W : World} {g t : Nat} {r : List Int} (h : Blk W g (bytes r) t) (m : Nat) :
    ∀ j v, (bytes (r.take m))[j]? = some v → W.cell? ((⟨g, 0, none⟩ : Addr).add j) = some v := by
  have := src_cells h 0 m
  rwa [List.drop_zero] at this

/-- What Peek copies is what the chain holds. -/
theorem peek_pure {r L : List Int} {fr k m : Nat} (hfr : fr < r.length) (hk : k ≤ L.length) (hL : L.length ≤ r.length) (hm : m = min (r.length - fr) k)
    (hat : ∀ i, i < L.length → r.getD ((fr + i) % r.length) 0 = L.getD i 0) :
    splice (splice (List.replicate k 0) 0 ((r.drop fr).take m)) m (r.take (k - m)) = L.take k := by
  have l1 : ((r.drop fr).take m).length = m := by simp only [List.length_take, List.length_drop]; omega
  have l2 : (r.take (k - m)).length = k - m := by simp only [List.length_take]; omega
  have l3 : (splice (List.replicate k 0) 0 ((r.drop fr).take m)).length = k := by
    rw [length_splice _ _ _ (by rw [l1, List.length_replicate]; omega), List.length_replicate]
  have l4 : (splice (splice (List.replicate k 0) 0 ((r.drop fr).take m)) m (r.take (k - m))).length = k := by
    rw [length_splice _ _ _ (by rw [l3, l2]; omega), l3]
  refine ext_getD (by rw [l4, List.length_take]; omega) fun i hi => ?_
  rw [l4] at hi
  rw [getD_take _ _ _ hi, ← hat i (by omega), mod_two (by omega), splice_getD _ _ _ _ (by rw [l3, l2]; omega), l2]
  by_cases h : i < m
  · rw [if_neg (by omega), splice_getD _ _ _ _ (by rw [l1, List.length_replicate]; omega), l1, if_pos ⟨by omega, by omega⟩, Nat.sub_zero, getD_take _ _ _ h, getD_drop, if_pos (by omega)]
  · rw [if_pos ⟨by omega, by omega⟩, getD_take _ _ _ (by omega), if_neg (by omega)]
    congr 1
    omega

/-- What Drop leaves. -/
theorem drop_pure {r L : List Int} {fr k : Nat} (hfr : fr < r.length) (hk : k ≤ L.length) (hL : L.length ≤ r.length)
    (hat : ∀ i, i < L.length → r.getD ((fr + i) % r.length) 0 = L.getD i 0) :
    ∀ i, i < (L.drop k).length → r.getD (((fr + k) % r.length + i) % r.length) 0 = (L.drop k).getD i 0 := by
  intro i hi
  rw [List.length_drop] at hi
  rw [getD_drop, ← hat (k + i) (by omega), Nat.mod_add_mod, Nat.add_assoc]

/-- The place of the first x; -1: there is none. -/
def findI : List Int → Int → Int
  | [], _ => -1
  | y :: l, x => if y = x then 0 else if findI l x < 0 then -1 else findI l x + 1
theorem findI_at {L : List Int} {x : Int} {k : Nat} (hk : k < L.length) (h0 : ∀ i, i < k → L.getD i 0 ≠ x) (h1 : L.getD k 0 = x) : findI L x = k := by
  induction L generalizing k with
  | nil => simp at hk
  | cons y l ih =>
    cases k with
    | zero =>
      have : y = x := by simpa using h1
      simp [findI, this]
    | succ k =>
      have hy : y ≠ x := by simpa using h0 0 (by omega)
      have := ih (k := k) (by simpa using hk) (fun i hi => by simpa using h0 (i + 1) (by omega)) (by simpa using h1)
      simp only [findI, if_neg hy, this]
      rw [if_neg (by omega)]
      omega
theorem findI_none {L : List Int} {x : Int} (h0 : ∀ i, i < L.length → L.getD i 0 ≠ x) : findI L x = -1 := by
  induction L with
  | nil => rfl
  | cons y l ih =>
    have hy : y ≠ x := by simpa using h0 0 (by simp)
    have := ih (fun i hi => by simpa using h0 (i + 1) (by simpa using hi))
    simp [findI, hy, this]
end Go.Proofs.Ytpkaaadnolmidaa
