/- chain.Put joined; speaks. -/
import Derived.Test.YtpkaaadnolmidaaWalks7
namespace Go.Proofs.Ytpkaaadnolmidaa
open Go.RowKit
set_option linter.unusedVariables false

section
variable {w : World} {p : Nat} {g : Option Nat} {r : List Int} {fr bound high low : Nat} {L : List Int} {stop : Bool}

theorem put_any (h : Ch w p g r fr bound high low L stop) (ad : Option Addr) (cap : Nat) (M : List Int) (hsrc : Src w ad cap M) (hdis : 0 < M.length → ∀ gb off, ad = some ⟨gb, off, none⟩ → ¬ foot p g gb) (k : Nat) (hk : k = min M.length (bound - L.length)) :
    Calls Try.prog 11 #[.pointer (some ⟨p, 0, none⟩), .slice ad M.length cap] w fun e w' => e = .returned (.int .i64 k) ∧ PutPost w w' p g bound high low (L ++ M.take k) (putStop high k (L ++ M.take k) stop) := by
  by_cases hz : k = 0
  · subst hz
    refine (put_zero h ad cap M hk.symm).mono ?_
    rintro e w' ⟨rfl, hd⟩
    refine ⟨rfl, g, r, fr, ?_, hd.only _, .inl rfl⟩
    rw [List.take_zero, List.append_nil, putStop, if_pos rfl]
    exact h.drawn hd
  · exact put_some h ad cap M hsrc (hdis (by omega)) k hk (by omega)

theorem put_nil (ad : Option Addr) (n cap : Nat) (hn : n ≤ cap) (hc : cap ≤ 9223372036854775807) : Calls Try.prog 11 #[.pointer none, .slice ad n cap] w fun e w' => e = .returned (.int .i64 0) ∧ w = w' := by
  rcases (show n = 0 ∨ 0 < n by omega) with h0 | h0
  · subst h0
    go_enter Try.func11, Try.ntmps11
    go_wp2_with (first
      | (go_at_call 21; (with_reducible refine (room_nil _).mono ?_); rintro e w' ⟨rfl, rfl⟩))
    all_goals
      go_ret
      exact ⟨rfl, rfl⟩
  · go_enter Try.func11, Try.ntmps11
    go_wp2_with (first
      | (go_at_call 21; (with_reducible refine (room_nil _).mono ?_); rintro e w' ⟨rfl, rfl⟩))
    all_goals
      go_ret
      exact ⟨rfl, rfl⟩
end
end Go.Proofs.Ytpkaaadnolmidaa
