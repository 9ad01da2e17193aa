/- Contract: Parse, at all numbers of bytes. -/
import Derived.Test.YtjjmcmchcmfgnaaDoorParseB
namespace Go.Proofs.YtjjmcmchcmfgnaaDoor
open Go.RowKit

set_option maxHeartbeats 4000000 in
set_option maxRecDepth 100000 in
theorem parse_any (s : ByteArray) (w : World) :
    Calls Tryd.prog 25 #[.string s] w (ParsedBy s.data.toList w) := by
  by_cases hl : s.size = 20
  · have hx := hid (fits_any s w)
    have hS : s.data.toList.length = 20 := hl
    obtain ⟨b, hb⟩ : ∃ b, Hid (fitsL s.data.toList = b) := ⟨_, hid rfl⟩
    rw [hb.out] at hx
    cases b
    · have hP : Hid (Parsed s.data.toList 0 4) := hid (.form fun c r => by
        rcases r.fits with h | ⟨x, t, e, _, _, h⟩
        · rw [hb.out] at h; cases h
        · have h2 := congrArg List.length e
          obtain ⟨_, _, _, _, _, _, _, _, _, _, _, _, _, _, rfl, _⟩ := fits_open h
          rw [hS] at h2
          simp at h2)
      go_enter Tryd.func25, Tryd.ntmps25
      go_wp2_with (go_at_call 38; refine hx.out.mono ?_; rintro e w1 ⟨rfl, h1⟩)
      go_ret2
      exact ⟨_, _, hP.out, rfl, h1⟩
    · obtain ⟨y1, y2, y3, y4, a, b, c, d, e, f, g, q, i, j, es, hy1, hy2, hy3, hy4, ha, hb, hc, hd, he, hf, hg, hq, hi, hj⟩ := fits_open hb.out
      have R := hid (Reads.four y1 y2 y3 y4 a b c d e f g q i j hy1 hy2 hy3 hy4 ha hb hc hd he hf hg hq hi hj)
      rw [← es] at R
      obtain ⟨l0, hl0⟩ : ∃ l0, s.data.toList = l0 := ⟨_, rfl⟩
      rw [hl0] at R
      rw [hl0]
      obtain rfl := str_of es
      clear hl hb hS es hl0
      have t0 := fun W => hid (number_at ⟨[y1, y2, y3, y4, 45, a, b, 45, c, d, 84, e, f, 58, g, q, 58, i, j, 90].toArray⟩ 0 4 [y1, y2, y3, y4] _ (by simp) (by simp [*]) (by simp) rfl W)
      have tM := fun W => hid (number_at ⟨[y1, y2, y3, y4, 45, a, b, 45, c, d, 84, e, f, 58, g, q, 58, i, j, 90].toArray⟩ 5 7 [a, b] _ (by simp) (by simp [*]) (by simp) rfl W)
      have tD := fun W => hid (number_at ⟨[y1, y2, y3, y4, 45, a, b, 45, c, d, 84, e, f, 58, g, q, 58, i, j, 90].toArray⟩ 8 10 [c, d] _ (by simp) (by simp [*]) (by simp) rfl W)
      have tH := fun W => hid (number_at ⟨[y1, y2, y3, y4, 45, a, b, 45, c, d, 84, e, f, 58, g, q, 58, i, j, 90].toArray⟩ 11 13 [e, f] _ (by simp) (by simp [*]) (by simp) rfl W)
      have tI := fun W => hid (number_at ⟨[y1, y2, y3, y4, 45, a, b, 45, c, d, 84, e, f, 58, g, q, 58, i, j, 90].toArray⟩ 14 16 [g, q] _ (by simp) (by simp [*]) (by simp) rfl W)
      have tS := fun W => hid (number_at ⟨[y1, y2, y3, y4, 45, a, b, 45, c, d, 84, e, f, 58, g, q, 58, i, j, 90].toArray⟩ 17 19 [i, j] _ (by simp) (by simp [*]) (by simp) rfl W)
      have b0 := num4_lt hy1 hy2 hy3 hy4
      have bM := num2_lt ha hb
      have bD := num2_lt hc hd
      have bH := num2_lt he hf
      have bI := num2_lt hg hq
      have bS := num2_lt hi hj
      clear hy1 hy2 hy3 hy4 ha hb hc hd he hf hg hq hi hj
      generalize num [y1, y2, y3, y4] = Y at *
      generalize num [a, b] = M at *
      generalize num [c, d] = D at *
      generalize num [e, f] = H at *
      generalize num [g, q] = I at *
      generalize num [i, j] = S at *
      go_enter Tryd.func25, Tryd.ntmps25
      go_wp2_with (go_at_call 38; refine hx.out.mono ?_; rintro e w1 ⟨rfl, h1⟩)
      go_quiet ((first | (go_at_call 39; with_reducible exact Calls.quiet_of_same (t0 _).out) | (go_at_call 39; with_reducible exact Calls.quiet_of_same (tM _).out) | (go_at_call 39; with_reducible exact Calls.quiet_of_same (tD _).out) | (go_at_call 39; with_reducible exact Calls.quiet_of_same (tH _).out) | (go_at_call 39; with_reducible exact Calls.quiet_of_same (tI _).out) | (go_at_call 39; with_reducible exact Calls.quiet_of_same (tS _).out)))
      replace h1 := h1.drewN nq
      generalize World.drewN w1 nq = w1 at *
      go_wp2_with fail
      go_quiet ((first | (go_at_call 39; with_reducible exact Calls.quiet_of_same (t0 _).out) | (go_at_call 39; with_reducible exact Calls.quiet_of_same (tM _).out) | (go_at_call 39; with_reducible exact Calls.quiet_of_same (tD _).out) | (go_at_call 39; with_reducible exact Calls.quiet_of_same (tH _).out) | (go_at_call 39; with_reducible exact Calls.quiet_of_same (tI _).out) | (go_at_call 39; with_reducible exact Calls.quiet_of_same (tS _).out)))
      replace h1 := h1.drewN nq
      generalize World.drewN w1 nq = w1 at *
      clear hx t0 tM tD tH tI tS
      have hY1 : Y < 100000 := by omega
      rcases (show (Y < 1970) ∨ (1970 ≤ Y ∧ M < 1) ∨ (1970 ≤ Y ∧ 1 ≤ M ∧ 12 < M) ∨ (1970 ≤ Y ∧ 1 ≤ M ∧ M ≤ 12 ∧ D < 1) ∨ (1970 ≤ Y ∧ 1 ≤ M ∧ M ≤ 12 ∧ 1 ≤ D ∧ md Y M < D) ∨ (1970 ≤ Y ∧ 1 ≤ M ∧ M ≤ 12 ∧ 1 ≤ D ∧ D ≤ md Y M ∧ 23 < H) ∨ (1970 ≤ Y ∧ 1 ≤ M ∧ M ≤ 12 ∧ 1 ≤ D ∧ D ≤ md Y M ∧ H ≤ 23 ∧ 59 < I) ∨ (1970 ≤ Y ∧ 1 ≤ M ∧ M ≤ 12 ∧ 1 ≤ D ∧ D ≤ md Y M ∧ H ≤ 23 ∧ I ≤ 59 ∧ 59 < S) ∨ (1970 ≤ Y ∧ 1 ≤ M ∧ M ≤ 12 ∧ 1 ≤ D ∧ D ≤ md Y M ∧ H ≤ 23 ∧ I ≤ 59 ∧ S ≤ 59) by omega) with v1 | ⟨v1, v2⟩ | ⟨v1, v2, v3⟩ | ⟨v1, v2, v3, v4⟩ | ⟨v1, v2, v3, v4, v5⟩ | ⟨v1, v2, v3, v4, v5, v6⟩ | ⟨v1, v2, v3, v4, v5, v6, v7⟩ | ⟨v1, v2, v3, v4, v5, v6, v7, v8⟩ | ⟨v1, v2, v3, v4, v5, v6, v7, v8⟩
      · have hP : Hid (Parsed l0 0 27) := hid (.range _ R.out fun k => by have := k.1.y; simp only at this; omega)
        clear R
        go_wp2_with fail
        go_ret2
        exact ⟨_, _, hP.out, rfl, h1⟩
      · have hP : Hid (Parsed l0 0 27) := hid (.range _ R.out fun k => by have := k.1.m1; simp only at this; omega)
        clear R
        go_wp2_with fail
        go_ret2
        exact ⟨_, _, hP.out, rfl, h1⟩
      · have hP : Hid (Parsed l0 0 27) := hid (.range _ R.out fun k => by have := k.1.m2; simp only at this; omega)
        clear R
        go_wp2_with fail
        go_ret2
        exact ⟨_, _, hP.out, rfl, h1⟩
      · have hP : Hid (Parsed l0 0 27) := hid (.range _ R.out fun k => by have := k.1.d1; simp only at this; omega)
        clear R
        go_wp2_with fail
        go_ret2
        exact ⟨_, _, hP.out, rfl, h1⟩
      · have hP : Hid (Parsed l0 0 27) := hid (.range _ R.out fun k => by have := k.1.d2; simp only at this; omega)
        clear R
        go_wp2_with (go_at_call 40; refine (month_any Y M (by omega) (by omega) (by omega) _).mono ?_; rintro e w3 ⟨rfl, h3⟩; replace h1 := Kept.step h1 h3 (by simp); clear h3)
        go_ret2
        exact ⟨_, _, hP.out, rfl, h1⟩
      · have hP : Hid (Parsed l0 0 27) := hid (.range _ R.out fun k => by have := k.1.h; simp only at this; omega)
        clear R
        go_wp2_with (go_at_call 40; refine (month_any Y M (by omega) (by omega) (by omega) _).mono ?_; rintro e w3 ⟨rfl, h3⟩; replace h1 := Kept.step h1 h3 (by simp); clear h3)
        go_ret2
        exact ⟨_, _, hP.out, rfl, h1⟩
      · have hP : Hid (Parsed l0 0 27) := hid (.range _ R.out fun k => by have := k.1.i; simp only at this; omega)
        clear R
        go_wp2_with (go_at_call 40; refine (month_any Y M (by omega) (by omega) (by omega) _).mono ?_; rintro e w3 ⟨rfl, h3⟩; replace h1 := Kept.step h1 h3 (by simp); clear h3)
        go_ret2
        exact ⟨_, _, hP.out, rfl, h1⟩
      · have hP : Hid (Parsed l0 0 27) := hid (.range _ R.out fun k => by have := k.1.s; simp only at this; omega)
        clear R
        go_wp2_with (go_at_call 40; refine (month_any Y M (by omega) (by omega) (by omega) _).mono ?_; rintro e w3 ⟨rfl, h3⟩; replace h1 := Kept.step h1 h3 (by simp); clear h3)
        go_ret2
        exact ⟨_, _, hP.out, rfl, h1⟩
      · have hok := hid (show Cal.Ok ⟨Y, M, D, H, I, S⟩ from ⟨v1, v2, v3, v4, v5, v6, v7, v8⟩)
        have A := hid (show Cal.at ⟨Y, M, D, H, I, S⟩ = 86400 * (bf Y - bf 1970 + mb Y M + D - 1) + 3600 * H + 60 * I + S from rfl)
        have hD31 := (md_bd Y M v2 v3).2
        have hbb := hid (before_any Y v1 hY1)
        have hbd := bf_bd hY1
        have hmb := fun (m : Nat) (h1 : 1 ≤ m) (h2 : m ≤ 12) => hid (mb_bd Y m h1 h2)
        generalize bf Y - bf 1970 = B at *
        go_wp2_with (first
          | (go_at_call 40; refine (month_any Y M (by omega) (by omega) (by omega) _).mono ?_; rintro e w3 ⟨rfl, h3⟩; replace h1 := Kept.step h1 h3 (by simp); clear h3)
          | (go_at_call 41; refine (hbb.out _).mono ?_; rintro e w3 ⟨rfl, rfl⟩))
        go_loopw [12, 99] (fun n i wr => ∃ k : Nat, k + 1 ≤ M ∧ i = .int .i64 (k : Int) ∧ n = .int .i64 ((B + D - 1 + mb Y (k + 1) : Nat) : Int) ∧ Kept [] w wr) (fun _ i _ => M - (intOf i).toNat)
        case atStart => exact ⟨0, v2, rfl, by rw [mb_one]; go_num, h1⟩
        case round =>
          clear h1
          obtain ⟨k, hk, rfl, rfl, h1⟩ := hrel
          have hm1 := (hmb (k + 1) (by omega) (by omega)).out
          by_cases hlt : k + 1 < M
          · have hN := hid (mb_next Y (k + 1) (by omega) (by omega))
            have hc := hid (fun w => month_any Y (k + 1) (by omega) (by omega) (by omega) w)
            have ec : (((k + 1 : Nat) : Int)) = (k : Int) + 1 := by omega
            rw [ec] at hc
            clear ec
            have hm31 := (md_bd Y (k + 1) (by omega) (by omega)).2
            generalize mb Y (k + 1) = X at *
            generalize md Y (k + 1) = Z at *
            go_wp2_with (go_at_call 40; refine (hc.out _).mono ?_; rintro e w3 ⟨rfl, h3⟩; replace h1 := Kept.step h1 h3 (by simp); clear h3)
            go_roundw
            case rel => exact ⟨k + 1, by omega, by go_num, by rw [hN.out]; go_num, h1⟩
            case measure => simp [intOf]; omega
          · obtain rfl : M = k + 1 := by omega
            obtain ⟨T, hT⟩ : ∃ T : Nat, T = 86400 * (B + mb Y (k + 1) + D - 1) + 3600 * H + 60 * I + S := ⟨_, rfl⟩
            have hA := hid (A.out.trans hT.symm)
            clear A
            have hV := hid (valid_of T)
            by_cases hle : T ≤ 1099511627776
            · have hP : Hid (Parsed l0 T 0) := hid (by rw [← hA.out]; exact .ok _ R.out hok.out (by rw [hA.out]; exact hle))
              have hd : decide (T ≤ 1099511627776) = true := by simpa using hle
              rw [hd] at hV
              clear hd
              go_wp2_with (go_at_call 9; refine (hV.out _ (by omega) _).mono ?_; rintro e w3 ⟨rfl, rfl⟩)
              go_ret2
              exact ⟨_, _, hP.out, congrArg (fun z => Ending.returned (.tuple #[.int .i64 z, .int .i64 0])) (by omega), h1⟩
            · have hP : Hid (Parsed l0 0 27) := hid (.range _ R.out fun k => by have := k.2; rw [hA.out] at this; omega)
              have hd : decide (T ≤ 1099511627776) = false := by simpa using hle
              rw [hd] at hV
              clear hd
              go_wp2_with (go_at_call 9; refine (hV.out _ (by omega) _).mono ?_; rintro e w3 ⟨rfl, rfl⟩)
              go_ret2
              exact ⟨_, _, hP.out, rfl, h1⟩
  · have hE := hid (show fitsL s.data.toList = false by
      unfold fitsL
      rw [show (s.data.toList.length == 20) = false by simpa using hl]; rfl)
    by_cases h21 : s.size = 21
    · have hp : 0 < s.size := by omega
      by_cases h0 : 49 ≤ s[0].toNat ∧ s[0].toNat ≤ 57
      · exact parse21 s h21 hp h0.1 h0.2 w
      · have hx := hid (fits_any s w)
        rw [hE.out] at hx
        have hP : Hid (Parsed s.data.toList 0 4) := hid (.form fun c r => by
          rcases r.fits with h | ⟨x, t, e, k1, k2, _⟩
          · rw [hE.out] at h; cases h
          · have e0 : s[0] = x := by
              rw [← list_get s 0 hp hp]
              simp only [e]
              rfl
            rw [e0] at h0
            unfold isd at k1
            simp at k1
            have : x.toNat ≠ 48 := fun h => k2 (UInt8.toNat_inj.1 h)
            omega)
        rcases (show s[0].toNat < 49 ∨ (49 ≤ s[0].toNat ∧ 57 < s[0].toNat) by omega) with h1 | ⟨h1, h2⟩
        all_goals (
          clear h0
          go_enter Tryd.func25, Tryd.ntmps25
          go_wp2_with (go_at_call 38; refine hx.out.mono ?_; rintro e w1 ⟨rfl, h1⟩)
          go_ret2
          exact ⟨_, _, hP.out, rfl, h1⟩)
    · have hx := hid (fits_any s w)
      rw [hE.out] at hx
      have hP : Hid (Parsed s.data.toList 0 4) := hid (.form fun c r => by
        have h1 : s.data.toList.length = s.size := rfl
        rcases r.len with h | h <;> omega)
      go_enter Tryd.func25, Tryd.ntmps25
      go_wp2_with (go_at_call 38; refine hx.out.mono ?_; rintro e w1 ⟨rfl, h1⟩)
      go_ret2
      exact ⟨_, _, hP.out, rfl, h1⟩
end Go.Proofs.YtjjmcmchcmfgnaaDoor
