/- The law's comparisons; the first of a list of moments, both forms. -/
import Derived.Test.YtmpcffkandmacaaDoes
import Derived.Test.YtmpcffkandmacaaNil
namespace Go.Proofs.Ytmpcffkandmacaa
open Go.RowKit
set_option linter.unusedVariables false
set_option linter.unusedSimpArgs false

/-- The first place of a list's least number. -/
structure IsMin (l : List Nat) (m : Nat) : Prop where
  lt : m < l.length
  le : ∀ i, i < l.length → l.getD m 0 ≤ l.getD i 0
  first : ∀ i, i < m → l.getD m 0 < l.getD i 0
theorem isMin_ex : ∀ (l : List Nat), l ≠ [] → ∃ m, IsMin l m := by
  intro l hl
  have key : ∀ n, n ≤ l.length → 0 < n → ∃ m, m < n ∧ (∀ i, i < n → l.getD m 0 ≤ l.getD i 0) ∧ ∀ i, i < m → l.getD m 0 < l.getD i 0 := by
    intro n
    induction n with
    | zero => intro _ h; omega
    | succ n ih =>
      intro hn _
      rcases Nat.eq_zero_or_pos n with rfl | hp
      · exact ⟨0, by omega, fun i hi => by rw [show i = 0 by omega]; exact Nat.le_refl _, fun i hi => by omega⟩
      · obtain ⟨m, h1, h2, h3⟩ := ih (by omega) hp
        by_cases h : l.getD m 0 ≤ l.getD n 0
        · exact ⟨m, by omega, fun i hi => by rcases (show i < n ∨ i = n by omega) with h' | rfl; exact h2 i h'; exact h, h3⟩
        · exact ⟨n, by omega, fun i hi => by rcases (show i < n ∨ i = n by omega) with h' | rfl; (have := h2 i h'; omega); exact Nat.le_refl _, fun i hi => by have := h2 i hi; omega⟩
  obtain ⟨m, h1, h2, h3⟩ := key l.length (Nat.le_refl _) (List.length_pos_iff.2 hl)
  exact ⟨m, h1, h2, h3⟩
def nints (l : List Nat) : List Int := l.map Int.ofNat
theorem nints_len (l : List Nat) : (nints l).length = l.length := by simp [nints]
theorem nints_get {l : List Nat} {i : Nat} (h : i < l.length) : (nints l).getD i 0 = (l.getD i 0 : Nat) := by simp [nints, List.getD_eq_getElem?_getD, h]
theorem nints_snoc (l : List Nat) (n : Nat) : nints (l ++ [n]) = nints l ++ [(n : Int)] := by simp [nints]

section
variable {w : World}
/-- A row of numbers, to be read. -/
def IRow (w : World) (v : Value) (l : List Int) : Prop :=
  ∃ ao cap, v = .slice ao l.length cap ∧ l.length ≤ cap ∧ cap ≤ 9223372036854775807 ∧
    (0 < l.length → ∃ g, ao = some ⟨g, 0, none⟩ ∧ g < w.heap.size ∧ ∀ i, i < l.length → w.cell? ⟨g, i, none⟩ = some (.int .i64 (l.getD i 0)))
theorem iRow_of {lo : Nat} {v : Value} {l : List Int} (h : w.ownsRow lo 3 1 v l.length (ints l)) : IRow w v l := by
  obtain ⟨ao, cap, rfl, h1, h2, _, h4⟩ := ownsRow_slice h
  refine ⟨ao, cap, rfl, h1, by unfold maxLen at h2; omega, fun h0 => ?_⟩
  obtain ⟨g, rfl, hg⟩ := h4 h0
  refine ⟨g, rfl, (ownsRow_lt h g hg).2, fun i hi => ?_⟩
  rw [ownsRow_cell h hg i hi]
  simp [ints, List.getD_eq_getElem?_getD, hi]
theorem IRow.only {w' : World} {v : Value} {l : List Int} (h : IRow w v l) (ho : Only (fun _ => False) w w') : IRow w' v l := by
  obtain ⟨ao, cap, rfl, h1, h2, h3⟩ := h
  refine ⟨ao, cap, rfl, h1, h2, fun h0 => ?_⟩
  obtain ⟨g, e, hg, hc⟩ := h3 h0
  refine ⟨g, e, Nat.lt_of_lt_of_le hg ho.size, fun i hi => ?_⟩
  rw [← hc i hi]
  unfold World.cell?
  rw [ho.block g hg (fun h => h)]
def acAt (l : List Ac) (i : Nat) : Ac := l.getD i default
theorem acAt_eq {l : List Ac} {i : Nat} (h : i < l.length) : acAt l i = l[i] := by simp [acAt, List.getD_eq_getElem?_getD, h]
/-- A row of acts, to be read. -/
def ActRow (w : World) (v : Value) (l : List Ac) : Prop :=
  ∃ ao cap, v = .slice ao l.length cap ∧ l.length ≤ cap ∧ cap ≤ 9223372036854775807 ∧ (0 < l.length → ∃ g, ao = some ⟨g, 0, none⟩ ∧ g < w.heap.size ∧
    ∀ i, i < l.length → w.cell? ⟨g, i * 3, none⟩ = some (.int .i64 (acAt l i).kind) ∧ w.cell? ⟨g, i * 3 + 1, none⟩ = some (.int .i64 (acAt l i).conn) ∧ w.cell? ⟨g, i * 3 + 2, none⟩ = some (.int .i64 (acAt l i).who))
theorem ActRow.only {w' : World} {v : Value} {l : List Ac} (h : ActRow w v l) (ho : Only (fun _ => False) w w') : ActRow w' v l := by
  obtain ⟨ao, cap, rfl, h1, h2, h3⟩ := h
  refine ⟨ao, cap, rfl, h1, h2, fun h0 => ?_⟩
  obtain ⟨g, e, hg, hc⟩ := h3 h0
  refine ⟨g, e, Nat.lt_of_lt_of_le hg ho.size, fun i hi => ?_⟩
  obtain ⟨c0, c1, c2⟩ := hc i hi
  have hb : w'.heap[g]? = w.heap[g]? := ho.block g hg (fun h => h)
  unfold World.cell? at c0 c1 c2 ⊢
  rw [hb]
  exact ⟨c0, c1, c2⟩
theorem ActRow.at_ {v : Value} {l : List Ac} (h : ActRow w v l) {ao : Option Addr} {n cap : Nat} (hv : v = .slice ao n cap) {i : Nat} (hi : i < l.length) :
    ∃ g, ao = some ⟨g, 0, none⟩ ∧ g < w.heap.size ∧ w.cell? ⟨g, i * 3, none⟩ = some (.int .i64 (acAt l i).kind) ∧ w.cell? ⟨g, i * 3 + 1, none⟩ = some (.int .i64 (acAt l i).conn) ∧ w.cell? ⟨g, i * 3 + 2, none⟩ = some (.int .i64 (acAt l i).who) := by
  obtain ⟨ao', cap', e, _, _, h3⟩ := h
  rw [hv] at e
  injection e with e1 e2 e3
  obtain ⟨g, e4, hg, hc⟩ := h3 (by omega)
  exact ⟨g, e1.trans e4, hg, hc i hi⟩
theorem actRow_of {lo t : Nat} {v : Value} {l : List Ac} (h : w.ownsRow lo t 3 v l.length (acCells l)) : ActRow w v l := by
  obtain ⟨ao, cap, rfl, h1, h2, _⟩ := ownsRow_slice h
  refine ⟨ao, cap, rfl, h1, by unfold maxLen at h2; omega, fun h0 => ?_⟩
  obtain ⟨g, cap', C, e, _, hb, _⟩ := ownsRow_blk h h0
  injection e with e1 _ _
  refine ⟨g, e1, hb.lt, fun i hi => ?_⟩
  have hl := acCells_len l
  have key : ∀ j, j < 3 → w.cell? ⟨g, i * 3 + j, none⟩ = (acC l[i])[j]? := fun j hj => by
    rw [hb.cellAt, List.getElem?_append_left (by omega)]
    exact flat_get acC_len hi hj
  rw [acAt_eq hi]
  exact ⟨key 0 (by omega), key 1 (by omega), key 2 (by omega)⟩

set_option maxRecDepth 100000 in
theorem acts_same {v1 v2 : Value} {l : List Ac} (h1 : ActRow w v1 l) (h2 : ActRow w v2 l) :
    Calls Try.prog 38 #[v1, v2] w fun e w' => e = .returned (.bool true) ∧ Only (fun _ => False) w w' := by
  obtain ⟨ao1, cap1, rfl, hlc1, hcm1, -⟩ := id h1
  obtain ⟨ao2, cap2, rfl, hlc2, hcm2, -⟩ := id h2
  have H1 := Lib.hid h1
  have H2 := Lib.hid h2
  clear h1 h2
  go_enter Try.func38, Try.ntmps38
  go_wp2
  go_loopw [5, 13] (fun _ i wr => ∃ j : Nat, j ≤ l.length ∧ i = .int .i64 j ∧ Only (fun _ => False) w wr) (fun _ i _ => l.length - (intOf i).toNat)
  case atStart => exact ⟨0, Nat.zero_le _, rfl, Only.refl _ _⟩
  case round =>
    obtain ⟨j, hj, rfl, hO⟩ := hrel
    have HO := Lib.hid hO
    clear hO
    by_cases hlt : j < l.length
    · obtain ⟨g1, rfl, hg1, c10, c11, c12⟩ := (H1.out.only HO.out).at_ rfl hlt
      obtain ⟨g2, rfl, hg2, c20, c21, c22⟩ := (H2.out.only HO.out).at_ rfl hlt
      generalize acAt l j = x at c10 c11 c12 c20 c21 c22
      obtain ⟨xk, xi, xn⟩ := x
      simp only at c10 c11 c12 c20 c21 c22
      go_wp2
      go_quiet (fail)
      go_wp2
      go_roundw
      case rel => exact ⟨j + 1, by omega, by go_num, HO.out.drewN _⟩
      case measure => simp [intOf]; omega
    · go_wp2
      go_ret
      exact ⟨rfl, HO.out⟩

theorem IRow.at_ {v : Value} {l : List Int} (h : IRow w v l) {ao : Option Addr} {n cap : Nat} (hv : v = .slice ao n cap) {i : Nat} (hi : i < l.length) :
    ∃ g, ao = some ⟨g, 0, none⟩ ∧ g < w.heap.size ∧ w.cell? ⟨g, i, none⟩ = some (.int .i64 (l.getD i 0)) := by
  obtain ⟨ao', cap', e, _, _, h3⟩ := h
  rw [hv] at e
  injection e with e1 e2 e3
  obtain ⟨g, e4, hg, hc⟩ := h3 (by omega)
  exact ⟨g, e1.trans e4, hg, hc i hi⟩

set_option maxRecDepth 100000 in
theorem first_any {v : Value} {l : List Nat} {m : Nat} (h : IRow w v (nints l)) (hm : IsMin l m) (h62 : ∀ x ∈ l, x ≤ 4611686018427387904) (h9 : l.length ≤ 100) :
    Calls Try.prog 44 #[v] w fun e w' => e = .returned (.tuple #[.int .i64 (l.getD m 0 : Nat), .bool true]) ∧ w = w' := by
  obtain ⟨ao, cap, rfl, hlc, hcm, -⟩ := id h
  have hn := nints_len l
  obtain ⟨n, hnl⟩ : ∃ n, n = l.length := ⟨_, rfl⟩
  rw [hn] at hlc ⊢
  have hrow : ∀ i, i < l.length → ∃ g, ao = some ⟨g, 0, none⟩ ∧ g < w.heap.size ∧ w.cell? ⟨g, i, none⟩ = some (.int .i64 (l.getD i 0 : Nat)) := fun i hi => by
    obtain ⟨g, h1, h2, h3⟩ := h.at_ rfl (i := i) (by omega)
    exact ⟨g, h1, h2, by rw [h3, nints_get hi]⟩
  have hle : ∀ i, i < l.length → l.getD i 0 ≤ 4611686018427387904 := fun i hi => by
    rw [List.getD_eq_getElem?_getD, List.getElem?_eq_getElem hi, Option.getD_some]
    exact h62 _ (List.getElem_mem hi)
  rw [← hnl] at hlc h9 hrow hle ⊢
  have HROW := Lib.hid hrow
  have HLE := Lib.hid hle
  have HM := Lib.hid hm
  have HN := Lib.hid hnl
  obtain ⟨M, hM⟩ : ∃ M, M = l.getD m 0 := ⟨_, rfl⟩
  rw [← hM]
  have HMM := Lib.hid hM
  clear hM
  clear h hm h62 hn hrow hle hnl
  go_enter Try.func44, Try.ntmps44
  go_upto_region 3 with fail
  go_loop [4, 5, 7, 10] (fun a b _ i => ∃ j k : Nat, j ≤ n ∧ i = .int .i64 j ∧ ((j = 0 ∧ a = .int .i64 0 ∧ b = .bool false) ∨ (k < j ∧ a = .int .i64 (l.getD k 0 : Nat) ∧ b = .bool true ∧ ∀ i, i < j → l.getD k 0 ≤ l.getD i 0))) (fun _ _ _ i => n - (intOf i).toNat)
  case atStart => exact ⟨0, 0, Nat.zero_le _, rfl, .inl ⟨rfl, rfl, rfl⟩⟩
  case round =>
    obtain ⟨j, k, hj, rfl, hc⟩ := hrel
    by_cases hlt : j < n
    · obtain ⟨g, rfl, hgl, e0⟩ := HROW.out j hlt
      have hx62 := HLE.out j hlt
      obtain ⟨x, hx⟩ : ∃ x, x = l.getD j 0 := ⟨_, rfl⟩
      rw [← hx] at e0 hx62
      have HX := Lib.hid hx
      have hx0 : (0 : Int) ≤ x := by omega
      have hx1 : (x : Int) ≤ 4611686018427387904 := by omega
      clear hx
      rcases hc with ⟨rfl, rfl, rfl⟩ | ⟨hk, rfl, rfl, hk2⟩
      · go_wp2_with (go_at_call 51; (with_reducible refine (tmoment_ok x _ hx0 hx1).mono ?_); rintro e w' ⟨rfl, rfl⟩)
        go_round
        case rel => exact ⟨1, 0, by omega, by go_num, .inr ⟨by omega, by rw [← HX.out], rfl, fun i hi => by rw [show i = 0 by omega]; exact Nat.le_refl _⟩⟩
        case measure => simp [intOf]; omega
      · have HK2 := Lib.hid hk2
        clear hk2
        obtain ⟨y, hy⟩ : ∃ y, y = l.getD k 0 := ⟨_, rfl⟩
        rw [← hy]
        have HY := Lib.hid hy
        clear hy
        by_cases hxy : x < y
        · have f1 : decide ((x : Int) < (y : Int)) = true := decide_eq_true (by omega)
          have f1n : decide (x < y) = true := decide_eq_true hxy
          go_wp2_with (go_at_call 51; (with_reducible refine (tmoment_ok x _ hx0 hx1).mono ?_); rintro e w' ⟨rfl, rfl⟩)
          go_round
          case rel =>
            refine ⟨j + 1, j, by omega, by go_num, .inr ⟨by omega, by rw [← HX.out], rfl, fun i hi => ?_⟩⟩
            have hX := HX.out
            have hY := HY.out
            rcases (show i < j ∨ i = j by omega) with h' | rfl
            · have := HK2.out i h'
              omega
            · exact Nat.le_refl _
          case measure => simp [intOf]; omega
        · have f1 : decide ((x : Int) < (y : Int)) = false := decide_eq_false (by omega)
          have f1n : decide (x < y) = false := decide_eq_false hxy
          go_wp2_with (go_at_call 51; (with_reducible refine (tmoment_ok x _ hx0 hx1).mono ?_); rintro e w' ⟨rfl, rfl⟩)
          go_round
          case rel =>
            refine ⟨j + 1, k, by omega, by go_num, .inr ⟨by omega, by rw [← HY.out], rfl, fun i hi => ?_⟩⟩
            have hX := HX.out
            have hY := HY.out
            rcases (show i < j ∨ i = j by omega) with h' | rfl
            · exact HK2.out i h'
            · omega
          case measure => simp [intOf]; omega
    · have hmn : m < n := by rw [HN.out]; exact HM.out.lt
      rcases hc with ⟨rfl, rfl, rfl⟩ | ⟨hk, rfl, rfl, hk2⟩
      · omega
      · have h1 := hk2 m (by omega)
        have h2 := HM.out.le k (by rw [← HN.out]; omega)
        rw [show l.getD k 0 = M by have := HMM.out; omega]
        clear h1 h2 hk2
        go_wp2
        go_ret2
        exact ⟨rfl, rfl⟩

set_option maxRecDepth 100000 in
theorem rfirst_any {v : Value} {l : List Nat} {m : Nat} (h : IRow w v (nints l)) (hm : IsMin l m) (h62 : ∀ x ∈ l, x ≤ 4611686018427387904) (h9 : l.length ≤ 100) :
    Calls Try.prog 46 #[v] w fun e w' => e = .returned (.tuple #[.int .i64 (l.getD m 0 : Nat), .bool true]) ∧ w = w' := by
  obtain ⟨ao, cap, rfl, hlc, hcm, -⟩ := id h
  have hn := nints_len l
  obtain ⟨n, hnl⟩ : ∃ n, n = l.length := ⟨_, rfl⟩
  rw [hn] at hlc ⊢
  have hrow : ∀ i, i < l.length → ∃ g, ao = some ⟨g, 0, none⟩ ∧ g < w.heap.size ∧ w.cell? ⟨g, i, none⟩ = some (.int .i64 (l.getD i 0 : Nat)) := fun i hi => by
    obtain ⟨g, h1, h2, h3⟩ := h.at_ rfl (i := i) (by omega)
    exact ⟨g, h1, h2, by rw [h3, nints_get hi]⟩
  have hle : ∀ i, i < l.length → l.getD i 0 ≤ 4611686018427387904 := fun i hi => by
    rw [List.getD_eq_getElem?_getD, List.getElem?_eq_getElem hi, Option.getD_some]
    exact h62 _ (List.getElem_mem hi)
  rw [← hnl] at hlc h9 hrow hle ⊢
  have hmn : m < n := by rw [hnl]; exact hm.lt
  have HROW := Lib.hid hrow
  have HLE := Lib.hid hle
  have HM := Lib.hid hm
  have HN := Lib.hid hnl
  obtain ⟨M, hM⟩ : ∃ M, M = l.getD m 0 := ⟨_, rfl⟩
  rw [← hM]
  have HMM := Lib.hid hM
  clear hM
  clear h hm h62 hn hrow hle hnl
  go_enter Try.func46, Try.ntmps46
  go_upto_region 2 with fail
  go_loop [4, 5, 6, 7, 8, 11, 18, 19, 20] (fun _ _ _ _ _ i _ _ _ => ∃ j : Nat, j ≤ m ∧ i = .int .i64 j) (fun _ _ _ _ _ i _ _ _ => n - (intOf i).toNat)
  case atStart => exact ⟨0, Nat.zero_le _, rfl⟩
  case round =>
    obtain ⟨j, hj, rfl⟩ := hrel
    have hlt : j < n := by omega
    obtain ⟨g, rfl, hgl, e0⟩ := HROW.out j hlt
    have hx62 := HLE.out j hlt
    obtain ⟨x, hx⟩ : ∃ x, x = l.getD j 0 := ⟨_, rfl⟩
    rw [← hx] at e0 hx62
    have HX := Lib.hid hx
    have hx0 : (0 : Int) ≤ x := by omega
    have hx1 : (x : Int) ≤ 4611686018427387904 := by omega
    clear hx
    go_upto_region 6 with (go_at_call 16; (with_reducible refine (rmoment_ok x _ hx0 hx1).mono ?_); rintro e w' ⟨rfl, rfl⟩)
    clear e0
    go_loop [6, 7, 8, 20] (fun b _ _ i => ∃ (k : Nat) (f : Bool), k ≤ n ∧ i = .int .i64 k ∧ b = .bool f ∧ (f = true ↔ ∀ i, i < k → x < l.getD i 0 ∨ (x = l.getD i 0 ∧ j ≤ i))) (fun _ _ _ i => n - (intOf i).toNat)
    case atStart => exact ⟨0, true, Nat.zero_le _, rfl, rfl, ⟨fun _ i hi => absurd hi (by omega), fun _ => rfl⟩⟩
    case round =>
      obtain ⟨k, f, hk, rfl, rfl, hf⟩ := hrel
      have HF := Lib.hid hf
      clear hf
      by_cases hkn : k < n
      · obtain ⟨g2, e2, hgl2, e0⟩ := HROW.out k hkn
        injection e2 with e2
        injection e2 with e2
        subst e2
        have hy62 := HLE.out k hkn
        obtain ⟨y, hy⟩ : ∃ y, y = l.getD k 0 := ⟨_, rfl⟩
        rw [← hy] at e0 hy62
        have HY := Lib.hid hy
        have hy0 : (0 : Int) ≤ y := by omega
        have hy1 : (y : Int) ≤ 4611686018427387904 := by omega
        clear hy
        cases f with
        | false =>
          go_wp2
          go_round
          case rel => exact ⟨k + 1, false, by omega, by go_num, rfl, ⟨fun h => (by cases h), fun h => HF.out.2 (fun i hi => h i (by omega))⟩⟩
          case measure => simp [intOf]; omega
        | true =>
          rcases (show x < y ∨ (x = y ∧ j ≤ k) ∨ (x = y ∧ ¬ j ≤ k) ∨ y < x by omega) with h1 | ⟨h1, h2⟩ | ⟨h1, h2⟩ | h1
          · have f1 : decide ((x : Int) < (y : Int)) = true := decide_eq_true (by omega)
            have f1n : decide (x < y) = true := decide_eq_true h1
            go_wp2_with (go_at_call 16; (with_reducible refine (rmoment_ok y _ hy0 hy1).mono ?_); rintro e w' ⟨rfl, rfl⟩)
            go_round
            case rel => exact ⟨k + 1, true, by omega, by go_num, rfl, ⟨fun _ i hi => by rcases (show i < k ∨ i = k by omega) with h' | rfl; exact HF.out.1 (by simp) i h'; exact .inl (by rw [← HY.out]; exact h1), fun _ => rfl⟩⟩
            case measure => simp [intOf]; omega
          · subst h1
            have f1 : decide ((x : Int) < (x : Int)) = false := decide_eq_false (by omega)
            have f3 : decide ((j : Int) ≤ (k : Int)) = true := decide_eq_true (by omega)
            have f3n : decide (j ≤ k) = true := decide_eq_true h2
            go_wp2_with (go_at_call 16; (with_reducible refine (rmoment_ok x _ hy0 hy1).mono ?_); rintro e w' ⟨rfl, rfl⟩)
            go_round
            case rel => exact ⟨k + 1, true, by omega, by go_num, rfl, ⟨fun _ i hi => by rcases (show i < k ∨ i = k by omega) with h' | rfl; exact HF.out.1 (by simp) i h'; exact .inr ⟨HY.out, h2⟩, fun _ => rfl⟩⟩
            case measure => simp [intOf]; omega
          · subst h1
            have f1 : decide ((x : Int) < (x : Int)) = false := decide_eq_false (by omega)
            have f3 : decide ((j : Int) ≤ (k : Int)) = false := decide_eq_false (by omega)
            have f3n : decide (j ≤ k) = false := decide_eq_false h2
            go_wp2_with (go_at_call 16; (with_reducible refine (rmoment_ok x _ hy0 hy1).mono ?_); rintro e w' ⟨rfl, rfl⟩)
            go_round
            case rel => exact ⟨k + 1, false, by omega, by go_num, rfl, ⟨fun h => (by cases h), fun h => by have hY := HY.out; rcases h k (by omega) with h' | ⟨_, h'⟩ <;> omega⟩⟩
            case measure => simp [intOf]; omega
          · have f1 : decide ((x : Int) < (y : Int)) = false := decide_eq_false (by omega)
            have f1n : decide (x < y) = false := decide_eq_false (by omega)
            have f2 : ((x : Int) == (y : Int)) = false := beq_eq_false_iff_ne.2 (by omega)
            have f2n : (x == y) = false := beq_eq_false_iff_ne.2 (by omega)
            have f2d : decide (x = y) = false := decide_eq_false (by omega)
            go_wp2_with (go_at_call 16; (with_reducible refine (rmoment_ok y _ hy0 hy1).mono ?_); rintro e w' ⟨rfl, rfl⟩)
            go_round
            case rel => exact ⟨k + 1, false, by omega, by go_num, rfl, ⟨fun h => (by cases h), fun h => by have hY := HY.out; rcases h k (by omega) with h' | ⟨h', _⟩ <;> omega⟩⟩
            case measure => simp [intOf]; omega
      · cases f with
        | true =>
          have he := HF.out.1 (by simp) m (by omega)
          have hle := HM.out.le j (by rw [← HN.out]; omega)
          have hX := HX.out
          have hjm : x = M := by have := HMM.out; omega
          clear he hle hX
          have HJ := Lib.hid hjm
          clear hjm
          go_wp2
          go_ret2
          rw [← HJ.out]
          exact ⟨rfl, rfl⟩
        | false =>
          have hjm : j < m := by
            refine Nat.lt_of_le_of_ne hj (fun e => ?_)
            subst e
            have : (false = true) := HF.out.2 (fun i hi => by
              have h1 := HM.out.le i (by rw [← HN.out]; omega)
              rw [← HX.out] at h1
              by_cases hij : i < j
              · have h2 := HM.out.first i hij
                rw [← HX.out] at h2
                exact .inl h2
              · rcases (show x < l.getD i 0 ∨ x = l.getD i 0 by omega) with h | h
                · exact .inl h
                · exact .inr ⟨h, by omega⟩)
            cases this
          go_wp2
          go_round
          case rel => exact ⟨j + 1, by omega, by go_num⟩
          case measure => simp [intOf]; omega
theorem first_nil (w : World) {v : Value} (h : IRow w v []) : Calls Try.prog 44 #[v] w fun e w' => e = .returned (.tuple #[.int .i64 0, .bool false]) ∧ w = w' := by
  obtain ⟨ao, cap, rfl, hlc, hcm, -⟩ := h
  simp only [List.length_nil] at *
  go_enter Try.func44, Try.ntmps44
  go_upto_region 3 with fail
  go_loop [4, 5, 7, 10] (fun a b _ i => a = .int .i64 0 ∧ b = .bool false ∧ i = .int .i64 0) (fun _ _ _ i => 0)
  case atStart => exact ⟨rfl, rfl, rfl⟩
  case round =>
    obtain ⟨rfl, rfl, rfl⟩ := hrel
    go_wp2
    go_ret2
    exact ⟨rfl, rfl⟩
theorem rfirst_nil (w : World) {v : Value} (h : IRow w v []) : Calls Try.prog 46 #[v] w fun e w' => e = .returned (.tuple #[.int .i64 0, .bool false]) ∧ w = w' := by
  obtain ⟨ao, cap, rfl, hlc, hcm, -⟩ := h
  simp only [List.length_nil] at *
  go_enter Try.func46, Try.ntmps46
  go_upto_region 2 with fail
  go_loop [4, 5, 6, 7, 8, 11, 18, 19, 20] (fun _ _ _ _ _ i _ _ _ => i = .int .i64 0) (fun _ _ _ _ _ i _ _ _ => 0)
  case atStart => rfl
  case round =>
    obtain rfl := hrel
    go_wp2
    go_ret2
    exact ⟨rfl, rfl⟩
end
end Go.Proofs.Ytmpcffkandmacaa
