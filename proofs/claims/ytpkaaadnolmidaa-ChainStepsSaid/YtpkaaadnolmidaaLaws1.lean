/- speaks; ChainNil. -/
import Derived.Test.YtpkaaadnolmidaaWalks8
import Derived.Test.YtpkaaadnolmidaaLib2
namespace Go.Proofs.Ytpkaaadnolmidaa
open Go.RowKit
set_option linter.unusedVariables false

/-- A chain of the law's own, in a world that stands below B as at first. -/
def Mine (w0 w : World) (p bound high low : Nat) (L : List Int) (stop : Bool) : Prop :=
  ∃ g r fr, Ch w p g r fr bound high low L stop ∧ Below w0.heap.size w0 w ∧ (∀ k, foot p g k → w0.heap.size ≤ k) ∧ w0.heap.size ≤ w.heap.size

theorem Mine.drawn {w0 w w' : World} {p bound high low : Nat} {L : List Int} {stop : Bool} (h : Mine w0 w p bound high low L stop) (hd : Drawn w w') : Mine w0 w' p bound high low L stop := by
  obtain ⟨g, r, fr, hc, hb, hf, hs⟩ := h
  exact ⟨g, r, fr, hc.drawn hd, below_only hb (hd.only (fun _ => False)) hs (fun _ h => h.elim), hf, Nat.le_trans hs (hd.only (fun _ => False)).size⟩

theorem Mine.only {S : Nat → Prop} {w0 w w' : World} {p bound high low : Nat} {L : List Int} {stop : Bool} (h : Mine w0 w p bound high low L stop) (ho : Only S w w') (hd : ∀ k, S k → w.heap.size ≤ k) : Mine w0 w' p bound high low L stop := by
  obtain ⟨g, r, fr, hc, hb, hf, hs⟩ := h
  exact ⟨g, r, fr, hc.only ho (fun k hk hS => by have := hc.lt k hk; have := hd k hS; omega), below_only hb ho hs (fun k hS => by have := hd k hS; omega), hf, Nat.le_trans hs ho.size⟩

theorem mine_new {w w1 : World} {bound high low : Nat} (h : NewPost w w1 bound high low) : Mine w w1 w.heap.size bound high low [] false :=
  ⟨none, [], 0, h.ch, h.below, fun k hk => (by rcases hk with rfl | hk <;> first | exact Nat.le_refl _ | cases hk), by have := h.size; omega⟩

theorem new_at (w : World) (b h l : Int) (bound high low : Nat) (hb : b = bound) (hh : h = high) (hl : l = low) (hm : marksOk bound high low) :
    Calls Try.prog 8 #[.int .i64 b, .int .i64 h, .int .i64 l] w fun e w' => e = .returned (.tuple #[.pointer (some ⟨w.heap.size, 0, none⟩), .int .i64 0]) ∧ NewPost w w' bound high low := by
  subst hb hh hl
  exact new_ok w bound high low hm

section
variable {w0 w : World} {p bound high low : Nat} {L : List Int} {stop : Bool}

theorem mine_put (h : Mine w0 w p bound high low L stop) (ad : Option Addr) (len cap : Nat) (M : List Int) (hlen : len = M.length) (hsrc : Src w ad cap M) (hdis : 0 < M.length → ∀ g r fr gb off, Ch w p g r fr bound high low L stop → (∀ k, foot p g k → w0.heap.size ≤ k) → ad = some ⟨gb, off, none⟩ → ¬ foot p g gb) (k : Nat) (hk : k = min M.length (bound - L.length)) :
    Calls Try.prog 11 #[.pointer (some ⟨p, 0, none⟩), .slice ad len cap] w fun e w' => e = .returned (.int .i64 k) ∧ Mine w0 w' p bound high low (L ++ M.take k) (putStop high k (L ++ M.take k) stop) ∧ Only (fun b => w0.heap.size ≤ b) w w' := by
  subst hlen
  obtain ⟨g, r, fr, hc, hb, hf, hs⟩ := h
  refine (put_any hc ad cap M hsrc (fun h0 gb off e => hdis h0 g r fr gb off hc hf e) k hk).mono ?_
  rintro e w' ⟨rfl, g', r', fr', hc', ho, hg⟩
  refine ⟨rfl, ⟨g', r', fr', hc', below_only hb ho hs (fun i hi => hf i hi), fun i hi => ?_, Nat.le_trans hs ho.size⟩, ho.mono (fun i _ hi => hf i hi)⟩
  rcases hi with rfl | hi
  · exact hf i (.inl rfl)
  · rcases hg with hg | ⟨b, hg, hb⟩
    · exact hf i (.inr (by rw [← hg]; exact hi))
    · rw [hg] at hi
      cases hi
      omega

theorem mine_take (h : Mine w0 w p bound high low L stop) (n : Int) :
    Calls Try.prog 13 #[.pointer (some ⟨p, 0, none⟩), .int .i64 n] w fun e w' => ∃ v, e = .returned v ∧ OwnBytes w' w.heap.size v (L.take n.toNat) ∧ Mine w0 w' p bound high low (L.drop n.toNat) (dropStop low (L.drop n.toNat) stop) ∧ Only (fun b => b = p) w w' := by
  obtain ⟨g, r, fr, hc, hb, hf, hs⟩ := h
  refine (take_any hc n).mono ?_
  rintro e w' ⟨v, rfl, hv, fr', hc', ho⟩
  exact ⟨v, rfl, hv, ⟨g, r, fr', hc', below_only hb ho hs (fun i hi => by rw [hi]; exact hf p (.inl rfl)), hf, Nat.le_trans hs ho.size⟩, ho⟩

theorem mine_drop (h : Mine w0 w p bound high low L stop) (n : Int) :
    Calls Try.prog 15 #[.pointer (some ⟨p, 0, none⟩), .int .i64 n] w fun e w' => e = .returned (.int .i64 ((L.take n.toNat).length : Nat)) ∧ Mine w0 w' p bound high low (L.drop n.toNat) (dropStop low (L.drop n.toNat) stop) ∧ Only (fun b => b = p) w w' := by
  obtain ⟨g, r, fr, hc, hb, hf, hs⟩ := h
  refine (drop_any hc n).mono ?_
  rintro e w' ⟨rfl, fr', hc', ho⟩
  exact ⟨rfl, ⟨g, r, fr', hc', below_only hb ho hs (fun i hi => by rw [hi]; exact hf p (.inl rfl)), hf, Nat.le_trans hs ho.size⟩, ho⟩

theorem mine_peek (h : Mine w0 w p bound high low L stop) (n : Int) :
    Calls Try.prog 16 #[.pointer (some ⟨p, 0, none⟩), .int .i64 n] w fun e w' => ∃ v, e = .returned v ∧ OwnBytes w' w.heap.size v (L.take n.toNat) ∧ Only (fun _ => False) w w' ∧ Mine w0 w' p bound high low L stop := by
  obtain ⟨g, r, fr, hc, hb, hf, hs⟩ := id h
  refine (peek_any hc n).mono ?_
  rintro e w' ⟨v, rfl, hv⟩
  exact ⟨v, rfl, hv.own, hv.only, h.only hv.only (fun _ h => h.elim)⟩

theorem mine_stopped (h : Mine w0 w p bound high low L stop) : Calls Try.prog 22 #[.pointer (some ⟨p, 0, none⟩)] w fun e w' => e = .returned (.bool stop) ∧ w = w' := by
  obtain ⟨g, r, fr, hc, _⟩ := h
  exact stopped_any hc
theorem mine_len (h : Mine w0 w p bound high low L stop) : Calls Try.prog 20 #[.pointer (some ⟨p, 0, none⟩)] w fun e w' => e = .returned (.int .i64 L.length) ∧ w = w' := by
  obtain ⟨g, r, fr, hc, _⟩ := h
  exact len_any hc
theorem mine_room (h : Mine w0 w p bound high low L stop) : Calls Try.prog 21 #[.pointer (some ⟨p, 0, none⟩)] w fun e w' => e = .returned (.int .i64 ((bound : Int) - L.length)) ∧ Drawn w w' := by
  obtain ⟨g, r, fr, hc, _⟩ := h
  exact room_any hc
theorem mine_find (h : Mine w0 w p bound high low L stop) (x : Int) : Calls Try.prog 18 #[.pointer (some ⟨p, 0, none⟩), .int .u8 x] w fun e w' => e = .returned (.int .i64 (findI L x)) ∧ Drawn w w' := by
  obtain ⟨g, r, fr, hc, _⟩ := h
  exact find_any hc x
end

theorem ownBytes_slice {w : World} {lo : Nat} {v : Value} {L : List Int} (h : OwnBytes w lo v L) (n : Nat) (hn : L.length = n) : ∃ ad, v = .slice ad n n := by
  subst hn
  rcases h with ⟨rfl, rfl⟩ | ⟨g, rfl, _, _, _⟩
  · exact ⟨none, rfl⟩
  · exact ⟨_, rfl⟩

theorem speak_put {w w1 : World} (h : NewPost w w1 4 3 1) :
    Calls Try.prog 11 #[.pointer (some ⟨w.heap.size, 0, none⟩), .slice (some ⟨w1.heap.size, 0, none⟩) 5 5] (w1.alloc (.cells #[.int .u8 1, .int .u8 2, .int .u8 3, .int .u8 4, .int .u8 5] 5)) fun e w' => e = .returned (.int .i64 4) ∧ Mine w w' w.heap.size 4 3 1 [1, 2, 3, 4] true := by
  obtain ⟨w2, hw2⟩ : ∃ w2, w2 = w1.alloc (.cells #[.int .u8 1, .int .u8 2, .int .u8 3, .int .u8 4, .int .u8 5] 5) := ⟨_, rfl⟩
  have hb : Blk w2 w1.heap.size [.int .u8 1, .int .u8 2, .int .u8 3, .int .u8 4, .int .u8 5] 5 := by rw [hw2]; exact Blk.new w1 [.int .u8 1, .int .u8 2, .int .u8 3, .int .u8 4, .int .u8 5] 5
  have ho : Only (fun _ => False) w1 w2 := by rw [hw2]; exact (Only.refl _ _).alloc _
  rw [← hw2]
  have hm := (mine_new h).only ho (fun _ h => h.elim)
  refine (mine_put hm (some ⟨w1.heap.size, 0, none⟩) 5 5 [1, 2, 3, 4, 5] rfl ⟨Nat.le_refl _, by decide, fun _ => ⟨_, _, rfl, hb.lt, fun j hj => ?_⟩⟩ ?_ 4 rfl).mono ?_
  · rw [Nat.zero_add, hb.cellAt j]
    exact bytes_get [1, 2, 3, 4, 5] j hj
  · rintro _ g r fr gb off hc _ e hf
    cases e
    rcases hf with hf | hf
    · have := h.size; omega
    · cases g with
      | none => cases hf
      | some g =>
        injection hf with hf
        subst hf
        have := (hc.ring _ rfl).1
        have h2 := (hb.inj this).1
        have hl := congrArg List.length h2
        rw [bytes_length] at hl
        simp at hl
        have := hc.max
        omega
  · rintro e w' ⟨rfl, hm', _⟩
    exact ⟨rfl, hm'⟩

set_option maxRecDepth 100000 in
theorem speaks_ok (w : World) : Calls Try.prog 10 #[] w fun e w' => e = .returned (.bool true) ∧ Below w.heap.size w w' := by
  go_enter Try.func10, Try.ntmps10
  go_wp2_with (first
    | (go_at_call 8; (with_reducible refine (new_at w 4 3 1 4 3 1 rfl rfl rfl (by decide)).mono ?_); rintro e w1 ⟨rfl, hN⟩)
    | (go_at_call 11; (with_reducible refine (speak_put hN).mono ?_); rintro e w2 ⟨rfl, hP⟩)
    | (go_at_call 13; (with_reducible refine (mine_take hP 2).mono ?_); rintro e w3 ⟨v, rfl, hv, hT, _⟩; obtain ⟨ad, rfl⟩ := ownBytes_slice hv 2 rfl)
    | (go_at_call 15; (with_reducible refine (mine_drop hT 1).mono ?_); rintro e w4 ⟨rfl, hD, _⟩)
    | (go_at_call 22; (with_reducible refine (mine_stopped hD).mono ?_); rintro e w' ⟨rfl, rfl⟩)
    | (go_at_call 22; (with_reducible refine (mine_stopped hT).mono ?_); rintro e w' ⟨rfl, rfl⟩)
    | (go_at_call 22; (with_reducible refine (mine_stopped hP).mono ?_); rintro e w' ⟨rfl, rfl⟩)
    | (go_at_call 18; (with_reducible refine (mine_find hD 4).mono ?_); rintro e w5 ⟨rfl, hF⟩)
    | (go_at_call 21; (with_reducible refine (mine_room (hD.drawn hF)).mono ?_); rintro e w6 ⟨rfl, hR⟩))
  go_ret
  obtain ⟨_, _, _, _, hb, _⟩ := (hD.drawn hF).drawn hR
  exact ⟨rfl, hb⟩

theorem nil_walk (a0 : Option Addr) (len0 cap0 : Nat) (z0 : List Int) (a1 : Int) (w : World) (w0 : IsRow .u8 w a0 len0 cap0 z0) (w1 : (Lit.int .i64 a1).wf = true) :
    Calls Try.prog 6 #[.slice a0 len0 cap0, .int .i64 a1] w fun e w' => e = .returned (.bool true) ∧ Below w.heap.size w w' := by
  have hle : len0 ≤ cap0 ∧ cap0 ≤ 9223372036854775807 := by
    rcases w0 with ⟨_, rfl, rfl, _⟩ | ⟨x, _, h1, h2, _⟩
    · exact ⟨by decide, by decide⟩
    · exact ⟨h1, by unfold maxLen at h2; omega⟩
  obtain ⟨hle, hcap⟩ := hle
  clear w0
  go_enter Try.func6, Try.ntmps6
  go_wp2_with (first
    | (go_at_call 11; (with_reducible refine (put_nil a0 len0 cap0 hle hcap).mono ?_); rintro e w' ⟨rfl, rfl⟩)
    | (go_at_call 13; (with_reducible refine (take_nil a1).mono ?_); rintro e w' ⟨rfl, rfl⟩)
    | (go_at_call 16; (with_reducible refine (peek_nil a1).mono ?_); rintro e w' ⟨rfl, rfl⟩)
    | (go_at_call 15; (with_reducible refine (drop_nil a1).mono ?_); rintro e w' ⟨rfl, rfl⟩)
    | (go_at_call 18; (with_reducible refine (find_nil 0).mono ?_); rintro e w' ⟨rfl, rfl⟩)
    | (go_at_call 20; (with_reducible refine (len_nil _).mono ?_); rintro e w' ⟨rfl, rfl⟩)
    | (go_at_call 21; (with_reducible refine (room_nil _).mono ?_); rintro e w' ⟨rfl, rfl⟩)
    | (go_at_call 22; (with_reducible refine (stopped_nil _).mono ?_); rintro e w' ⟨rfl, rfl⟩)
    | (go_at_call 10; (with_reducible refine (speaks_ok _).mono ?_); rintro e w2 ⟨rfl, hS⟩))
  go_ret
  exact ⟨rfl, hS⟩
end Go.Proofs.Ytpkaaadnolmidaa
