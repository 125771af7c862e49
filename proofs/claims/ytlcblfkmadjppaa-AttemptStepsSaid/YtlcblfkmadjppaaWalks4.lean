/- slices.DeleteFunc at runs: the walk; end. -/
import Derived.Test.YtlcblfkmadjppaaWalks3
namespace Go.Proofs.Ytlcblfkmadjppaa
open Go.RowKit
set_option linter.unusedVariables false
set_option linter.unusedSimpArgs false

set_option maxRecDepth 100000 in
set_option maxHeartbeats 1600000 in
theorem deleteFunc_any {w : World} {lo : Nat} {v : Value} {l : List Run} (h : w.ownsRow lo 64 2 v l.length (runCells l)) (id : Int) (gs : Nat) (hc : Blk w gs [.int .i64 id] 3) (hl9 : l.length ≤ 64) :
    Calls Try.prog 54 #[v, .func (.func 55) #[] #[.pointer (some ⟨gs, 0, none⟩)]] w fun e w' =>
      ∃ v', e = .returned v' ∧ w'.ownsRow lo 64 2 v' (keep l id).length (runCells (keep l id)) ∧ v'.ownBlock = v.ownBlock ∧ Only (fun k => v.ownBlock = some k) w w' := by
  by_cases h0 : l.length = 0
  · have hl : l = [] := List.eq_nil_of_length_eq_zero h0
    subst hl
    obtain ⟨ao, cap, rfl, h1, h2, _, _⟩ := ownsRow_slice h
    simp only [List.length_nil] at h1 h ⊢
    have hcm : cap ≤ 9223372036854775807 := by unfold maxLen at h2; omega
    have HH := Lib.hid h
    have HC := Lib.hid hc
    clear h hc h2
    go_enter Try.func54, Try.ntmps54
    go_wp2_with (go_at_call 52; (with_reducible refine (indexFunc55 (n := 0) (l := []) (g := 0) rfl (fun h => absurd h (by decide)) h1 hcm ⟨fun h => absurd h (by decide), fun i hi => absurd hi (by simp)⟩ id gs (HC.out.cell 0 _ rfl) HC.out.lt).mono ?_); rintro e w1 ⟨k, rfl, hk, hO⟩; have HO := Lib.hid hO; obtain ⟨rfl, -⟩ | ⟨i, _, hi, _⟩ := hk)
    · go_wp2_with fail
      go_ret
      exact ⟨_, rfl, owns_only HH.out HO.out (fun _ _ h => h), rfl, HO.out.mono (fun _ _ h => h.elim)⟩
  · obtain ⟨g, cap, C, rfl, h1, h2, hb, hl, hr, hlo⟩ := own_runs h (by omega)
    have hcm : cap ≤ 9223372036854775807 := by unfold maxLen at h2; omega
    have hgne : gs ≠ g := fun e => by rw [e] at hc; exact absurd (hc.inj hb).2 (by decide)
    obtain ⟨n, hn⟩ : ∃ n, n = l.length := ⟨_, rfl⟩
    rw [← hn] at h1 h0 hl9
    rw [← hn]
    have HN := Lib.hid hn
    have HH := Lib.hid h
    have HC := Lib.hid hc
    have HB := Lib.hid hb
    have HL := Lib.hid hl
    have HR := Lib.hid hr
    have HCM := Lib.hid h2
    clear h hc h2 hb hl hr hn
    go_enter Try.func54, Try.ntmps54
    go_wp2_with (go_at_call 52; (with_reducible refine (indexFunc55 (l := l) (g := g) HN.out.symm (fun _ => rfl) h1 hcm HR.out id gs (HC.out.cell 0 _ rfl) HC.out.lt).mono ?_); rintro e w1 ⟨k, rfl, hk, hO⟩; have HO := Lib.hid hO; clear hO; obtain ⟨rfl, hnone⟩ | ⟨i, rfl, hi, he, hpre⟩ := hk; all_goals (try (have hI0 := Lib.hid (DelI.start HB.out HL.out HO.out hi he hpre); rw [← HN.out] at hi; have f1 : ((i : Int) == -1) = false := beq_eq_false_iff_ne.2 (by omega); clear he hpre)))
    · have hkn := keep_none hnone
      have HKN := Lib.hid hkn
      clear hkn hnone
      go_wp2_with fail
      go_ret
      refine ⟨_, rfl, ?_, rfl, HO.out.mono (fun _ _ h => h.elim)⟩
      have := owns_only HH.out HO.out (fun _ _ h => h)
      rw [HKN.out, HN.out]
      exact this
    · have HI0 := hI0
      clear hI0
      go_wp2_with fail
      go_loopw [5, 6, 7] (fun iv jv _ wr => ∃ a j : Nat, iv = .int .i64 a ∧ jv = .int .i64 j ∧ DelI w wr g cap l id a j) (fun _ jv _ _ => n - (intOf jv).toNat)
      case atStart => exact ⟨i, i + 1, rfl, by go_num, HI0.out⟩
      case round =>
        obtain ⟨a, j, rfl, rfl, hI⟩ := hrel
        have hlt := hI.lt
        rw [← HN.out] at hlt
        obtain ⟨hl1, hl2⟩ := hlt
        have HI := Lib.hid hI
        have z64 := zero64
        by_cases hj : j < n
        · have hjl : j < l.length := by rw [← HN.out]; exact hj
          obtain ⟨c0, c1⟩ := hI.cells hjl
          obtain ⟨x, hx⟩ : ∃ x, x = runAt l j := ⟨_, rfl⟩
          rw [← hx] at c0 c1
          have HX := Lib.hid hx
          have HJ := Lib.hid hjl
          have hw1 := hI.only
          have hgr : g < wr.heap.size := Nat.lt_of_lt_of_le HB.out.lt hw1.size
          clear hI hx hjl
          go_upto_region 8 with fail
          have hbx : Blk (wr.alloc (Obj.cells #[.int .i64 x.id, .int .i64 x.since] 64)) wr.heap.size [.int .i64 x.id, .int .i64 x.since] 64 := Blk.new wr [.int .i64 x.id, .int .i64 x.since] 64
          have hox : Only (fun _ => False) wr (wr.alloc (Obj.cells #[.int .i64 x.id, .int .i64 x.since] 64)) := (Only.refl _ _).alloc _
          obtain ⟨q, hq⟩ : ∃ q, q = wr.heap.size := ⟨_, rfl⟩
          rw [← hq] at hbx ⊢
          generalize wr.alloc (Obj.cells #[.int .i64 x.id, .int .i64 x.since] 64) = w2 at hbx hox ⊢
          have hgs2 := (HC.out.only hw1 hgne).only hox (fun h => h)
          have d0 := hbx.cell 0 _ rfl
          have d1 := hbx.cell 1 _ rfl
          have hql := hbx.lt
          have HBX := Lib.hid hbx
          have HOX := Lib.hid hox
          have HGS := Lib.hid hgs2
          have hqg : q ≠ g := by omega
          clear hbx hox hgs2 hw1 hq c0 c1
          obtain ⟨b, hb⟩ : ∃ b, b = ((x.id : Int) == id) := ⟨_, rfl⟩
          have hcl := clos55 x id gs (HGS.out.cell 0 _ rfl) HGS.out.lt
          rw [← hb] at hcl
          have HCL := Lib.hid hcl
          have HBE := Lib.hid hb
          clear hcl hb
          cases b with
          | true =>
            go_wp2_with (go_at_call 55; (refine HCL.out.mono ?_); rintro e w3 ⟨rfl, hO3⟩; have HO3 := Lib.hid hO3; clear hO3)
            go_roundw
            case rel => exact ⟨a, j + 1, rfl, by go_num, HI.out.skip HJ.out (by rw [← HX.out]; exact beq_iff_eq.1 HBE.out.symm) (HOX.out.trans HO3.out (fun _ _ h => h))⟩
            case measure => simp [intOf]; omega
          | false =>
            go_upto_region 9 with (go_at_call 55; (refine HCL.out.mono ?_); rintro e w3 ⟨rfl, hO3⟩; have hb3 := HBX.out.only hO3 (fun h => h); have d2 := hb3.cell 0 _ rfl; have d3 := hb3.cell 1 _ rfl; have HO3 := Lib.hid (HOX.out.trans hO3 (fun _ _ h => h)); clear hO3 hb3)
            have hp := HI.out.put HJ.out (by rw [← HX.out]; exact beq_eq_false_iff_ne.1 HBE.out.symm) HO3.out
            rw [← HX.out] at hp
            obtain ⟨X, C2, hbk, _, hln⟩ := HI.out.row
            have hbk3 := hbk.only HO3.out (fun h => h)
            have hle2 : a * 2 + 1 < (runCells (keep (l.take j) id) ++ (X ++ (runCells (l.drop j) ++ C2))).length := by rw [hln]; omega
            have e0 := hbk3.cell (a * 2) _ (List.getElem?_eq_getElem (by omega))
            have e1 := hbk3.cell (a * 2 + 1) _ (List.getElem?_eq_getElem hle2)
            have f0 := hbk3.free (a * 2)
            have f1' := hbk3.free (a * 2 + 1)
            have hg3 := hbk3.lt
            have HP := Lib.hid hp
            generalize (runCells (keep (l.take j) id) ++ (X ++ (runCells (l.drop j) ++ C2)))[a * 2]'(by omega) = y0 at e0
            generalize (runCells (keep (l.take j) id) ++ (X ++ (runCells (l.drop j) ++ C2)))[a * 2 + 1]'hle2 = y1 at e1
            clear hp hbk hln hbk3 hle2 d0 d1
            go_wp2_with fail
            go_roundw
            case rel => exact ⟨a + 1, j + 1, by go_num, by go_num, HP.out⟩
            case measure => simp [intOf]; omega
        · have hjn : j = n := by omega
          subst hjn
          have HJL := Lib.hid (show DelI w wr g cap l id a l.length by rw [← HN.out]; exact HI.out)
          obtain ⟨X, C2, hbk, _, hln⟩ := HI.out.row
          have hac : a * 2 + (j - a) * 2 ≤ (runCells (keep (l.take j) id) ++ (X ++ (runCells (l.drop j) ++ C2))).length := by rw [hln]; omega
          obtain ⟨hcl, ho3, cs', hb3, hl3, he3⟩ := run_clear_runs (c := cap - a) hbk (show 0 < j - a by omega) hac
          have hall : ∀ cs, Blk wr g cs 64 → cs'.length = cs.length ∧ ∀ i, i < a * 2 → cs'[i]? = cs[i]? := fun cs hcs => by
            rw [(hcs.inj hbk).1]; exact ⟨hl3, he3⟩
          obtain ⟨hd1, hd2⟩ := HJL.out.done hlo HCM.out hb3 hall ho3
          have HD1 := Lib.hid hd1
          have HD2 := Lib.hid hd2
          clear hI hac hbk hln hl3 he3 hall hd1 hd2 hb3 ho3 z64
          generalize clearW wr g (a * 2) (j - a) = w3 at HD1 HD2 hcl
          go_wp2_with fail
          go_ret
          exact ⟨_, rfl, HD1.out, rfl, HD2.out.mono (fun k _ e => by rw [e]; rfl)⟩
end Go.Proofs.Ytlcblfkmadjppaa
