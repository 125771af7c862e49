/- A pool, in plain Lean. -/
namespace Go.Proofs.Ytmpcffkandmacaa
set_option linter.unusedVariables false

structure Cn where
  num : Nat
  st : Nat
  who : Int
  since : Nat
  born : Nat
  nth : Nat
deriving DecidableEq, Inhabited
structure Pp where
  cap : Nat
  pend : Nat
  idle : Nat
  life : Nat
  next : Nat
  rested : Nat
  l : List Cn
  waits : List Int
deriving DecidableEq
structure Ac where
  kind : Int
  conn : Int
  who : Int
deriving DecidableEq, Inhabited

def later (t d : Nat) : Nat := if t + d ≤ 4611686018427387904 then t + d else 4611686018427387904
theorem later_le (t d : Nat) : later t d ≤ 4611686018427387904 := by unfold later; split <;> omega
abbrev isMoment (t : Int) : Prop := 0 ≤ t ∧ t ≤ 4611686018427387904
def cnAt (l : List Cn) (i : Nat) : Cn := l.getD i default
theorem cnAt_eq {l : List Cn} {i : Nat} (h : i < l.length) : cnAt l i = l[i] := by simp [cnAt, List.getD_eq_getElem?_getD, h]
theorem cnAt_mem {l : List Cn} {i : Nat} (h : i < l.length) : cnAt l i ∈ l := by rw [cnAt_eq h]; exact List.getElem_mem h

def endC (P : Pp) (c : Cn) : Nat := min (later c.since P.idle) (later c.born P.life)
def good (P : Pp) (now : Nat) (c : Cn) : Bool := decide (c.st = 2) && decide (now < endC P c)
def beats (P : Pp) (o : Option Nat) (c : Cn) : Bool := match o with | none => true | some o => decide ((cnAt P.l o).nth < c.nth)
/-- The best of the first j. -/
def bestU (P : Pp) (now : Nat) : Nat → Option Nat
  | 0 => none
  | j + 1 => if good P now (cnAt P.l j) && beats P (bestU P now j) (cnAt P.l j) then some j else bestU P now j
theorem bestU_lt {P : Pp} {now : Nat} : ∀ {j i : Nat}, bestU P now j = some i → i < j := by
  intro j
  induction j with
  | zero => intro i h; cases h
  | succ j ih =>
    intro i h
    unfold bestU at h
    split at h
    · injection h with h; omega
    · have := ih h; omega
def give (P : Pp) (now : Nat) (who : Int) : Pp × Option Ac :=
  match bestU P now P.l.length with
  | some i => ({ P with l := P.l.set i { cnAt P.l i with st := 1, who := who } }, some ⟨2, (cnAt P.l i).num, who⟩)
  | none => if P.cap ≤ P.l.length then (P, none) else ({ P with next := P.next + 1, l := P.l ++ [⟨P.next, 0, who, 0, now, 0⟩] }, some ⟨1, P.next, who⟩)
def serveW (now : Nat) : List Int → Pp → Pp × List Ac
  | [], P => ({ P with waits := [] }, [])
  | u :: us, P => match give P now u with
    | (P', some a) => ((serveW now us P').1, a :: (serveW now us P').2)
    | (P', none) => ({ P' with waits := u :: us }, [])
def serve (P : Pp) (now : Nat) : Pp × List Ac := serveW now P.waits P
def ofI (P : Pp) (who : Int) : Option Nat := P.l.findIdx? fun c => decide (c.st ≠ 2) && decide (c.who = who)
def atI (P : Pp) (n : Int) : Option Nat := P.l.findIdx? fun c => decide ((c.num : Int) = n)
def cutI (P : Pp) (i : Nat) : Pp := { P with l := P.l.eraseIdx i }
def ask (P : Pp) (now : Int) (who : Int) : Pp × Ac × Int :=
  if ¬ isMoment now ∨ who < 0 then (P, ⟨0, 0, 0⟩, 1)
  else if (ofI P who).isSome ∨ who ∈ P.waits then (P, ⟨0, 0, 0⟩, 7)
  else match give P now.toNat who with
    | (P', some a) => (P', a, 0)
    | (P', none) => if P'.pend ≤ P'.waits.length then (P', ⟨4, -1, who⟩, 0) else ({ P' with waits := P'.waits ++ [who] }, ⟨3, -1, who⟩, 0)
def up (P : Pp) (n : Int) : Pp × Int × Int :=
  match atI P n with
  | none => (P, 0, 6)
  | some i => if (cnAt P.l i).st = 0 then ({ P with l := P.l.set i { cnAt P.l i with st := 1 } }, (cnAt P.l i).who, 0) else (P, 0, 6)
def gone (P : Pp) (now : Int) (n : Int) : Pp × Int × List Ac × Int :=
  if ¬ isMoment now then (P, 0, [], 1)
  else match atI P n with
    | none => (P, 0, [], 6)
    | some i => ((serve (cutI P i) now.toNat).1, if (cnAt P.l i).st = 2 then -1 else (cnAt P.l i).who, (serve (cutI P i) now.toNat).2, 0)
def restI (P : Pp) (i now : Nat) : Pp := { P with rested := P.rested + 1, l := P.l.set i { cnAt P.l i with st := 2, since := now, nth := P.rested + 1 } }
def done (P : Pp) (now : Int) (n : Int) (keep : Bool) : Pp × List Ac × Int :=
  if ¬ isMoment now then (P, [], 1)
  else match atI P n with
    | none => (P, [], 6)
    | some i => if (cnAt P.l i).st ≠ 1 then (P, [], 6)
      else if keep = false ∨ later (cnAt P.l i).born P.life ≤ now.toNat then ((serve (cutI P i) now.toNat).1, ⟨5, n, -1⟩ :: (serve (cutI P i) now.toNat).2, 0)
      else ((serve (restI P i now.toNat) now.toNat).1, (serve (restI P i now.toNat) now.toNat).2, 0)
def dropW (P : Pp) (i : Nat) : Pp := { P with waits := P.waits.eraseIdx i }
def drop (P : Pp) (now : Int) (who : Int) : Pp × List Ac × Int :=
  if ¬ isMoment now then (P, [], 1)
  else match P.waits.findIdx? (fun x => decide (x = who)) with
    | some i => ((serve (dropW P i) now.toNat).1, (serve (dropW P i) now.toNat).2, 0)
    | none => match ofI P who with
      | none => (P, [], 6)
      | some i => ((serve (cutI P i) now.toNat).1, ⟨5, (cnAt P.l i).num, who⟩ :: (serve (cutI P i) now.toNat).2, 0)
def stale (P : Pp) (now : Nat) (c : Cn) : Bool := decide (c.st = 2) && decide (endC P c ≤ now)
def expireL (P : Pp) (now : Nat) : Pp := { P with l := P.l.filter fun c => !stale P now c }
def closes (P : Pp) (now : Nat) : List Ac := (P.l.filter (stale P now)).map fun c => ⟨5, c.num, -1⟩
def expire (P : Pp) (now : Int) : Pp × List Ac × Int :=
  if ¬ isMoment now then (P, [], 1)
  else ((serve (expireL P now.toNat) now.toNat).1, closes P now.toNat ++ (serve (expireL P now.toNat) now.toNat).2, 0)
def resting (l : List Cn) : Nat := (l.filter fun c => decide (c.st = 2)).length
end Go.Proofs.Ytmpcffkandmacaa
