/- PoolFair, the plain law. -/
import Derived.Test.YtmpcffkandmacaaLaws1
namespace Go.Proofs.Ytmpcffkandmacaa
open Go.RowKit
set_option linter.unusedVariables false
set_option linter.unusedSimpArgs false

/-- n numbers from a on. -/
def W (a : Nat) : Nat → List Int
  | 0 => []
  | n + 1 => (a : Int) :: W (a + 1) n
theorem W_len : ∀ {n a : Nat}, (W a n).length = n
  | 0, _ => rfl
  | n + 1, a => by rw [W, List.length_cons, W_len]
theorem W_snoc : ∀ {n a : Nat}, W a (n + 1) = W a n ++ [((a + n : Nat) : Int)]
  | 0, a => rfl
  | n + 1, a => by
    show (a : Int) :: W (a + 1) (n + 1) = ((a : Int) :: W (a + 1) n) ++ _
    rw [W_snoc, List.cons_append, show a + 1 + n = a + (n + 1) by omega]
theorem W_mem : ∀ {n a : Nat} {x : Int}, x ∈ W a n → (a : Int) ≤ x ∧ x < (a + n : Nat)
  | 0, _, _, h => by cases h
  | n + 1, a, x, h => by
    rcases List.mem_cons.1 h with rfl | h
    · omega
    · have := W_mem h; omega
theorem give_busy {P : Pp} {c : Cn} {now : Nat} {who : Int} (hl : P.l = [c]) (hs : c.st ≠ 2) (hc : P.cap = 1) : give P now who = (P, none) := by
  have hb : bestU P now P.l.length = none := by
    rw [hl]
    show (if good P now (cnAt P.l 0) && beats P (bestU P now 0) (cnAt P.l 0) then some 0 else bestU P now 0) = none
    have : good P now (cnAt P.l 0) = false := by
      unfold good
      rw [hl]
      simp [cnAt, hs]
    rw [this]
    rfl
  unfold give
  rw [hb]
  simp only
  rw [if_pos (by rw [hc, hl]; simp)]
theorem serve_one {P P1 : Pp} {now : Nat} {u : Int} {us : List Int} {a : Ac} (h : P.waits = u :: us) (hg : give P now u = (P1, some a)) (hn : ∀ x, give { P1 with waits := us } now x = ({ P1 with waits := us }, none)) : serve P now = ({ P1 with waits := us }, [a]) := by
  rw [serve_step h hg]
  cases us with
  | nil => rw [serve_nil rfl]
  | cons x xs => rw [serve_stop (u := x) (us := xs) rfl (hn x)]
theorem give_free {P : Pp} {c : Cn} {now : Nat} {who : Int} (hl : P.l = [c]) (hs : c.st = 2) (he : now < endC P c) : give P now who = ({ P with l := [{ c with st := 1, who := who }] }, some ⟨2, c.num, who⟩) := by
  have hc : cnAt P.l 0 = c := by rw [hl]; rfl
  have hb : bestU P now P.l.length = some 0 := by
    rw [hl]
    show (if good P now (cnAt P.l 0) && beats P (bestU P now 0) (cnAt P.l 0) then some 0 else bestU P now 0) = some 0
    have : good P now (cnAt P.l 0) = true := by
      unfold good
      rw [hc, decide_eq_true hs, decide_eq_true he]
      rfl
    rw [this]
    rfl
  unfold give
  rw [hb]
  simp only [hc]
  rw [hl]
  rfl
abbrev M : Nat := 1000000
def fA (i : Nat) : Pp := match i with
  | 0 => newP 1 64 M M
  | i + 1 => ⟨1, 64, M, M, 1, 0, [⟨0, 0, 0, 0, 0, 0⟩], W 1 i⟩
theorem fA_ask {i : Nat} (hi : i < 64) : ∃ a, ask (fA i) 0 i = (fA (i + 1), a, 0) := by
  cases i with
  | zero => exact ⟨⟨1, 0, 0⟩, by decide⟩
  | succ i =>
    refine ⟨⟨3, -1, ((i + 1 : Nat) : Int)⟩, ?_⟩
    unfold ask
    rw [if_neg (by unfold isMoment; omega)]
    have ho : ofI (fA (i + 1)) ((i + 1 : Nat) : Int) = none := by
      simp only [ofI, fA, List.findIdx?_cons, List.findIdx?_nil]
      have : decide ((0 : Int) = ((i + 1 : Nat) : Int)) = false := decide_eq_false (by omega)
      rw [this]
      rfl
    have hm : ((i + 1 : Nat) : Int) ∉ (fA (i + 1)).waits := fun h => by
      have := W_mem (show ((i + 1 : Nat) : Int) ∈ W 1 i from h)
      omega
    rw [if_neg (by rw [ho]; rintro (h | h); cases h; exact hm h)]
    have hg := give_busy (P := fA (i + 1)) (now := (0 : Int).toNat) (who := ((i + 1 : Nat) : Int)) rfl (show (0 : Nat) ≠ 2 by decide) rfl
    rw [hg]
    simp only
    rw [if_neg (by show ¬ 64 ≤ (W 1 i).length; rw [W_len]; omega)]
    have e : W 1 (i + 1) = W 1 i ++ [((i + 1 : Nat) : Int)] := by rw [W_snoc, Nat.add_comm 1 i]
    simp only [fA]
    rw [e]
def fK (n i s nt : Nat) : Pp := ⟨1, 64, M, M, 1, i, [⟨0, 1, i, s, 0, nt⟩], W (i + 1) (n - (i + 1))⟩
def fC (n i b : Nat) : Pp := ⟨1, 64, M, M, i + 1, 0, [⟨i, 1, i, 0, b, 0⟩], W (i + 1) (n - (i + 1))⟩
theorem fA_up {n : Nat} (hn : 1 ≤ n) : ∃ x, up (fA n) 0 = (fK n 0 0 0, x) := by
  obtain ⟨m, rfl⟩ : ∃ m, n = m + 1 := ⟨n - 1, by omega⟩
  exact ⟨_, rfl⟩
theorem fK_fC (n : Nat) : fK n 0 0 0 = fC n 0 0 := rfl
theorem W_head {n i : Nat} (h : i + 1 < n) : W (i + 1) (n - (i + 1)) = ((i + 1 : Nat) : Int) :: W (i + 2) (n - (i + 2)) := by
  rw [show n - (i + 1) = (n - (i + 2)) + 1 by omega]
  rfl
theorem fK_done {n i s nt : Nat} (h : i + 1 < n) : done (fK n i s nt) 1 0 true = (fK n (i + 1) 1 (i + 1), [⟨2, 0, ((i + 1 : Nat) : Int)⟩], 0) := by
  have ha : atI (fK n i s nt) 0 = some 0 := rfl
  unfold done
  rw [if_neg (by unfold isMoment; omega), ha]
  simp only
  rw [if_neg (by show ¬ ((1 : Nat) ≠ 1); decide), if_neg (by show ¬ (true = false ∨ later 0 M ≤ 1); decide)]
  have hr : restI (fK n i s nt) 0 (1 : Int).toNat = ⟨1, 64, M, M, 1, i + 1, [⟨0, 2, i, 1, 0, i + 1⟩], W (i + 1) (n - (i + 1))⟩ := rfl
  rw [hr, W_head h]
  have hs := serve_one (P := ⟨1, 64, M, M, 1, i + 1, [⟨0, 2, i, 1, 0, i + 1⟩], ((i + 1 : Nat) : Int) :: W (i + 2) (n - (i + 2))⟩) (now := (1 : Int).toNat) (u := ((i + 1 : Nat) : Int)) (us := W (i + 2) (n - (i + 2)))
    (P1 := ⟨1, 64, M, M, 1, i + 1, [⟨0, 1, ((i + 1 : Nat) : Int), 1, 0, i + 1⟩], ((i + 1 : Nat) : Int) :: W (i + 2) (n - (i + 2))⟩) (a := ⟨2, 0, ((i + 1 : Nat) : Int)⟩) rfl (give_free (c := ⟨0, 2, i, 1, 0, i + 1⟩) rfl rfl (by show 1 < min (later 1 M) (later 0 M); decide))
    (fun x => give_busy rfl (show (1 : Nat) ≠ 2 by decide) rfl)
  rw [hs]
  rfl
theorem fC_done {n i b : Nat} (h : i + 1 < n) (hb : b ≤ 1) : done (fC n i b) 1 i false = (⟨1, 64, M, M, i + 2, 0, [⟨i + 1, 0, ((i + 1 : Nat) : Int), 0, 1, 0⟩], W (i + 2) (n - (i + 2))⟩, [⟨5, i, -1⟩, ⟨1, ((i + 1 : Nat) : Int), ((i + 1 : Nat) : Int)⟩], 0) := by
  have ha : atI (fC n i b) i = some 0 := by simp [atI, fC, List.findIdx?_cons]
  unfold done
  rw [if_neg (by unfold isMoment; omega), ha]
  simp only
  rw [if_neg (by show ¬ ((1 : Nat) ≠ 1); decide), if_pos (.inl trivial)]
  have hr : cutI (fC n i b) 0 = ⟨1, 64, M, M, i + 1, 0, [], W (i + 1) (n - (i + 1))⟩ := rfl
  rw [hr, W_head h]
  have hs := serve_one (P := ⟨1, 64, M, M, i + 1, 0, [], ((i + 1 : Nat) : Int) :: W (i + 2) (n - (i + 2))⟩) (now := (1 : Int).toNat) (u := ((i + 1 : Nat) : Int)) (us := W (i + 2) (n - (i + 2)))
    (P1 := ⟨1, 64, M, M, i + 2, 0, [⟨i + 1, 0, ((i + 1 : Nat) : Int), 0, 1, 0⟩], ((i + 1 : Nat) : Int) :: W (i + 2) (n - (i + 2))⟩) (a := ⟨1, ((i + 1 : Nat) : Int), ((i + 1 : Nat) : Int)⟩) rfl rfl
    (fun x => give_busy rfl (show (0 : Nat) ≠ 2 by decide) rfl)
  rw [hs]
theorem fC_up {n i : Nat} : up ⟨1, 64, M, M, i + 2, 0, [⟨i + 1, 0, ((i + 1 : Nat) : Int), 0, 1, 0⟩], W (i + 2) (n - (i + 2))⟩ ((i + 1 : Nat) : Int) = (fC n (i + 1) 1, ((i + 1 : Nat) : Int), 0) := by
  have ha : atI ⟨1, 64, M, M, i + 2, 0, [⟨i + 1, 0, ((i + 1 : Nat) : Int), 0, 1, 0⟩], W (i + 2) (n - (i + 2))⟩ ((i + 1 : Nat) : Int) = some 0 := by simp [atI, List.findIdx?_cons]
  unfold up
  rw [ha]
  rfl
theorem okn_M {P : Pp} (h : P.cap = 1 ∧ P.pend = 64 ∧ P.idle = M ∧ P.life = M) : OkN P := by
  obtain ⟨a, b, c, d⟩ := h
  have hM : M = 1000000 := rfl
  exact ⟨by omega, by omega, by omega, by omega⟩
theorem fA_ok {i : Nat} (hi : i ≤ 60) : Okp (fA i) 200 := by
  cases i with
  | zero => exact ⟨okn_M ⟨rfl, rfl, rfl, rfl⟩, fun c hc => (by cases hc), by decide, by decide, by decide, by decide⟩
  | succ i => exact ⟨okn_M ⟨rfl, rfl, rfl, rfl⟩, fun c hc => (by rw [List.mem_singleton.1 hc]; decide), Nat.le_refl 1, by show (W 1 i).length ≤ 64; rw [W_len]; omega, by show 1 + (W 1 i).length ≤ 200; rw [W_len]; omega, Nat.zero_le _⟩
theorem fK_ok {n i s nt : Nat} (hn : n ≤ 60) (hi : i < n) (hs : s ≤ 1) : Okp (fK n i s nt) 200 :=
  ⟨okn_M ⟨rfl, rfl, rfl, rfl⟩, fun c hc => (by rw [List.mem_singleton.1 hc]; exact ⟨by show s ≤ _; omega, Nat.zero_le _, by show 1 ≤ 2; decide⟩), Nat.le_refl _, by show (W _ _).length ≤ 64; rw [W_len]; omega, by show 1 + (W _ _).length ≤ 200; rw [W_len]; omega, by show i ≤ 200; omega⟩
theorem fC_ok {n i b : Nat} (hn : n ≤ 60) (hi : i < n) (hb : b ≤ 1) : Okp (fC n i b) 200 :=
  ⟨okn_M ⟨rfl, rfl, rfl, rfl⟩, fun c hc => (by rw [List.mem_singleton.1 hc]; exact ⟨Nat.zero_le _, by show b ≤ _; omega, by show 1 ≤ 2; decide⟩), Nat.le_refl _, by show (W _ _).length ≤ 64; rw [W_len]; omega, by show i + 1 + (W _ _).length ≤ 200; rw [W_len]; omega, Nat.zero_le _⟩
end Go.Proofs.Ytmpcffkandmacaa
