/- ChainOwn. -/
import Derived.Test.YtpkaaadnolmidaaLaws1
import Derived.Test.YtpkaaadnolmidaaRef1
import Derived.Laws.BytesArg
import Derived.Deep.RegionHeld3
namespace Go.Proofs.Ytpkaaadnolmidaa
open Go.RowKit
set_option linter.unusedVariables false

theorem src_of_row {w : World} {a : Option Addr} {len cap : Nat} {zs : List Int} (h : IsRow .u8 w a len cap zs) : Src w a cap (zs.take len) ∧ (zs.take len).length = len := by
  have hl : (zs.take len).length = len := by
    rcases h with ⟨_, rfl, _, rfl⟩ | ⟨x, _, h1, _, h3, _⟩
    · rfl
    · rw [List.length_take]; omega
  have hc : len ≤ cap ∧ cap ≤ 9223372036854775807 := by
    rcases h with ⟨_, rfl, rfl, _⟩ | ⟨x, _, h1, h2, _⟩
    · exact ⟨by decide, by decide⟩
    · exact ⟨h1, by unfold maxLen at h2; omega⟩
  refine ⟨⟨by rw [hl]; exact hc.1, hc.2, fun h0 => ?_⟩, hl⟩
  rw [hl] at h0
  obtain ⟨b, off, e, hr⟩ := (isRow_when h).2 h0
  refine ⟨b, off, e, hr.lt, fun j hj => ?_⟩
  rw [hl] at hj
  rw [hr.cell j hj, getD_take zs len j hj]

theorem Src.far {S : Nat → Prop} {w w' : World} {ad : Option Addr} {cap : Nat} {M : List Int} (h : Src w ad cap M) (ho : Only S w w') (hd : 0 < M.length → ∀ gb off, ad = some ⟨gb, off, none⟩ → gb < w.heap.size → ¬ S gb) : Src w' ad cap M :=
  ⟨h.le, h.max, fun h0 => by
    obtain ⟨gb, off, e, hl, hc⟩ := h.at_ h0
    exact ⟨gb, off, e, Nat.lt_of_lt_of_le hl ho.size, fun j hj => (World.cell?_of_block (a := ⟨gb, off + j, none⟩) (ho.block gb hl (hd h0 gb off e hl))).trans (hc j hj)⟩⟩

theorem src_own {w : World} {lo : Nat} {ao : Option Addr} {cap : Nat} {M : List Int} (h : Own w lo (.slice ao M.length cap) M) : Src w ao cap M := by
  obtain ⟨a2, c2, e, h1, h2, h3, h4⟩ := ownsRow_slice h
  cases e
  refine ⟨h1, by unfold maxLen at h2; omega, fun h0 => ?_⟩
  obtain ⟨g, rfl, hg⟩ := h4 h0
  exact ⟨g, 0, rfl, (ownsRow_lt h g hg).2, fun j hj => by rw [Nat.zero_add]; exact own_cell h hg j hj⟩

theorem src_take {w : World} {ao : Option Addr} {cap : Nat} {M : List Int} (h : Src w ao cap M) (k : Nat) : Src w ao cap (M.take k) := by
  refine ⟨by have := h.le; rw [List.length_take]; omega, h.max, fun h0 => ?_⟩
  rw [List.length_take] at h0
  obtain ⟨gb, off, e, hl, hc⟩ := h.at_ (by omega)
  refine ⟨gb, off, e, hl, fun j hj => ?_⟩
  rw [List.length_take] at hj
  rw [hc j (by omega), getD_take M k j (by omega)]

theorem src_ownBytes {w : World} {lo : Nat} {v : Value} {L : List Int} (h : OwnBytes w lo v L) (hL : L.length ≤ 1048576) : ∃ ad, v = .slice ad L.length L.length ∧ Src w ad L.length L := by
  rcases h with ⟨rfl, rfl⟩ | ⟨g, rfl, h1, h2, h3⟩
  · exact ⟨none, rfl, by simp, by simp, fun h => absurd h (by simp)⟩
  · refine ⟨_, rfl, Nat.le_refl _, by omega, fun _ => ⟨g, 0, rfl, h2.lt, fun j hj => ?_⟩⟩
    rw [Nat.zero_add, h2.cellAt j]
    exact bytes_get L j hj

/-- string(b) -/
theorem conv_src {w : World} {ad : Option Addr} {cap : Nat} {M : List Int} (h : Src w ad cap M) : (convert 33 9 (.slice ad M.length cap)).run Try.prog w = .ok (.string (strOfNums M)) w := by
  rcases Nat.eq_zero_or_pos M.length with h0 | h0
  · have hM := List.eq_nil_of_length_eq_zero h0
    subst hM
    rw [List.length_nil, run_convert_bytes_string w 33 9 5 ad 0 cap Try.underlying33 Try.underlying5 Try.underlying9]
    cases ad <;> simp [Conv.bytesToString, loadCells]
    all_goals rfl
  · obtain ⟨gb, off, rfl, _, hc⟩ := h.at_ h0
    exact run_convert_bytes_arg w 33 5 Try.underlying33 Try.underlying5 gb off M.length cap M rfl hc 9 Try.underlying9
end Go.Proofs.Ytpkaaadnolmidaa
