/- Contract: Parse of the reference, at 21 bytes. -/
import Derived.Test.YtjjmcmchcmfgnaaDoorRgood
namespace Go.Proofs.YtjjmcmchcmfgnaaDoor
open Go.RowKit

set_option maxHeartbeats 4000000 in
set_option maxRecDepth 100000 in
theorem rbad21 (s : ByteArray) (l0 : List UInt8) (hsz : s.size = 21) (y0 y1 y2 y3 y4 a b c d e f g q i j : UInt8) (hn : y0 ≠ 48) (EL : l0 = [y0, y1, y2, y3, y4, 45, a, b, 45, c, d, 84, e, f, 58, g, q, 58, i, j, 90]) (ES : s.data.toList = [y0, y1, y2, y3, y4, 45, a, b, 45, c, d, 84, e, f, 58, g, q, 58, i, j, 90])
    (hy0 : isd y0 = true) (hy1 : isd y1 = true) (hy2 : isd y2 = true) (hy3 : isd y3 = true) (hy4 : isd y4 = true) (ha : isd a = true) (hb : isd b = true) (hc : isd c = true) (hd : isd d = true) (he : isd e = true) (hf : isd f = true) (hg : isd g = true) (hq : isd q = true) (hi : isd i = true) (hj : isd j = true) (hno : ¬ Cal.Ok ⟨num [y0, y1, y2, y3, y4], num [a, b], num [c, d], num [e, f], num [g, q], num [i, j]⟩) (w : World) :
    Calls Tryd.prog 26 #[.string s] w (ParsedBy l0 w) := by
  have EL := hid EL
  have ES := hid ES
  have hnn : y0.toNat ≠ 48 := fun h => hn (UInt8.toNat_inj.1 h)
  have hne0 : ((s[0].toNat : Int) == 48) = false := by
    have : s[0] = y0 := by
      rw [← list_get s 0 (by omega) (by show 0 < s.size; omega)]
      simp only [ES.out]
      rfl
    rw [this]; simp; omega
  clear hnn
  have hn := hid hn
  have q0 : (s[5].toNat : Int) = 45 := by
    rw [show s[5] = 45 by
      rw [← list_get s 5 (by omega) (by show 5 < s.size; omega)]
      simp only [ES.out]
      rfl]
    rfl
  have q1 : (s[8].toNat : Int) = 45 := by
    rw [show s[8] = 45 by
      rw [← list_get s 8 (by omega) (by show 8 < s.size; omega)]
      simp only [ES.out]
      rfl]
    rfl
  have q2 : (s[11].toNat : Int) = 84 := by
    rw [show s[11] = 84 by
      rw [← list_get s 11 (by omega) (by show 11 < s.size; omega)]
      simp only [ES.out]
      rfl]
    rfl
  have q3 : (s[14].toNat : Int) = 58 := by
    rw [show s[14] = 58 by
      rw [← list_get s 14 (by omega) (by show 14 < s.size; omega)]
      simp only [ES.out]
      rfl]
    rfl
  have q4 : (s[17].toNat : Int) = 58 := by
    rw [show s[17] = 58 by
      rw [← list_get s 17 (by omega) (by show 17 < s.size; omega)]
      simp only [ES.out]
      rfl]
    rfl
  have q5 : (s[20].toNat : Int) = 90 := by
    rw [show s[20] = 90 by
      rw [← list_get s 20 (by omega) (by show 20 < s.size; omega)]
      simp only [ES.out]
      rfl]
    rfl
  have tY := fun W => hid (digits_good s 0 5 [y0, y1, y2, y3, y4] (by rw [str_of ES.out]; simp) (by simp) (by simp [*]) W)
  have tM := fun W => hid (digits_good s 6 8 [a, b] (by rw [str_of ES.out]; simp) (by simp) (by simp [*]) W)
  have tD := fun W => hid (digits_good s 9 11 [c, d] (by rw [str_of ES.out]; simp) (by simp) (by simp [*]) W)
  have tH := fun W => hid (digits_good s 12 14 [e, f] (by rw [str_of ES.out]; simp) (by simp) (by simp [*]) W)
  have tI := fun W => hid (digits_good s 15 17 [g, q] (by rw [str_of ES.out]; simp) (by simp) (by simp [*]) W)
  have tS := fun W => hid (digits_good s 18 20 [i, j] (by rw [str_of ES.out]; simp) (by simp) (by simp [*]) W)
  have R := hid (Reads.five y0 y1 y2 y3 y4 a b c d e f g q i j hy0 hn.out hy1 hy2 hy3 hy4 ha hb hc hd he hf hg hq hi hj)
  have b0 : num [y0, y1, y2, y3, y4] < 100000 := by rw [num5_eq]; have := num4_lt hy1 hy2 hy3 hy4; have := dv_le hy0; omega
  have bM := num2_lt ha hb
  have bD := num2_lt hc hd
  have bH := num2_lt he hf
  have bI := num2_lt hg hq
  have bS := num2_lt hi hj
  clear hy0 hy1 hy2 hy3 hy4 ha hb hc hd he hf hg hq hi hj
  rw [← EL.out] at R
  clear EL ES
  generalize num [y0, y1, y2, y3, y4] = Y at *
  generalize num [a, b] = M at *
  generalize num [c, d] = D at *
  generalize num [e, f] = H at *
  generalize num [g, q] = I at *
  generalize num [i, j] = S at *
  have hY1 : Y < 100000 := by omega
  have h1 : Kept [] w w := Kept.refl _ _
  have k9 : True := trivial
  go_enter Tryd.func26, Tryd.ntmps26
  go_wp2_with (first
    | (go_at_call 42; have _t := k4; clear _t k4; refine ((tI _).out).mono ?_; rintro _ w3 ⟨rfl, rfl⟩; have k5 : True := trivial)
    | (go_at_call 42; have _t := k3; clear _t k3; refine ((tH _).out).mono ?_; rintro _ w3 ⟨rfl, rfl⟩; have k4 : True := trivial)
    | (go_at_call 42; have _t := k2; clear _t k2; refine ((tD _).out).mono ?_; rintro _ w3 ⟨rfl, rfl⟩; have k3 : True := trivial)
    | (go_at_call 42; have _t := k1; clear _t k1; refine ((tM _).out).mono ?_; rintro _ w3 ⟨rfl, rfl⟩; have k2 : True := trivial)
    | (go_at_call 42; have _t := k9; clear _t k9; refine ((tY _).out).mono ?_; rintro _ w3 ⟨rfl, rfl⟩; have k1 : True := trivial))
  clear tY tM tD tH tI
  rcases (show (Y < 1970) ∨ (1970 ≤ Y ∧ M < 1) ∨ (1970 ≤ Y ∧ 1 ≤ M ∧ 12 < M) ∨ (1970 ≤ Y ∧ 1 ≤ M ∧ M ≤ 12 ∧ D < 1) ∨ (1970 ≤ Y ∧ 1 ≤ M ∧ M ≤ 12 ∧ 1 ≤ D ∧ md Y M < D) ∨ (1970 ≤ Y ∧ 1 ≤ M ∧ M ≤ 12 ∧ 1 ≤ D ∧ D ≤ md Y M ∧ 23 < H) ∨ (1970 ≤ Y ∧ 1 ≤ M ∧ M ≤ 12 ∧ 1 ≤ D ∧ D ≤ md Y M ∧ H ≤ 23 ∧ 59 < I) ∨ (1970 ≤ Y ∧ 1 ≤ M ∧ M ≤ 12 ∧ 1 ≤ D ∧ D ≤ md Y M ∧ H ≤ 23 ∧ I ≤ 59 ∧ 59 < S) by
    apply Decidable.byContradiction
    intro hx
    exact hno ⟨by show 1970 ≤ Y; omega, by show 1 ≤ M; omega, by show M ≤ 12; omega, by show 1 ≤ D; omega, by show D ≤ md Y M; omega, by show H ≤ 23; omega, by show I ≤ 59; omega, by show S ≤ 59; omega⟩) with v1 | ⟨v1, v2⟩ | ⟨v1, v2, v3⟩ | ⟨v1, v2, v3, v4⟩ | ⟨v1, v2, v3, v4, v5⟩ | ⟨v1, v2, v3, v4, v5, v6⟩ | ⟨v1, v2, v3, v4, v5, v6, v7⟩ | ⟨v1, v2, v3, v4, v5, v6, v7, v8⟩
  · have hP : Hid (Parsed l0 0 27) := hid (.range _ R.out fun k => by have := k.1.y; simp only at this; omega)
    clear R
    have u1 : decide ((Y : Int) < 1970) = true := by simp; omega
    refine ((tS _).out).mono ?_
    rintro _ w3 ⟨rfl, rfl⟩
    go_wp2_with fail
    go_ret2
    exact ⟨_, _, hP.out, rfl, h1⟩
  · have hP : Hid (Parsed l0 0 27) := hid (.range _ R.out fun k => by have := k.1.m1; simp only at this; omega)
    clear R
    have u1 : decide ((Y : Int) < 1970) = false := by simp; omega
    have u2 : decide ((M : Int) < 1) = true := by simp; omega
    refine ((tS _).out).mono ?_
    rintro _ w3 ⟨rfl, rfl⟩
    go_wp2_with fail
    go_ret2
    exact ⟨_, _, hP.out, rfl, h1⟩
  · have hP : Hid (Parsed l0 0 27) := hid (.range _ R.out fun k => by have := k.1.m2; simp only at this; omega)
    clear R
    have u1 : decide ((Y : Int) < 1970) = false := by simp; omega
    have u2 : decide ((M : Int) < 1) = false := by simp; omega
    have u3 : decide (12 < (M : Int)) = true := by simp; omega
    refine ((tS _).out).mono ?_
    rintro _ w3 ⟨rfl, rfl⟩
    go_wp2_with fail
    go_ret2
    exact ⟨_, _, hP.out, rfl, h1⟩
  · have hP : Hid (Parsed l0 0 27) := hid (.range _ R.out fun k => by have := k.1.d1; simp only at this; omega)
    clear R
    have u1 : decide ((Y : Int) < 1970) = false := by simp; omega
    have u2 : decide ((M : Int) < 1) = false := by simp; omega
    have u3 : decide (12 < (M : Int)) = false := by simp; omega
    have u4 : decide ((D : Int) < 1) = true := by simp; omega
    refine ((tS _).out).mono ?_
    rintro _ w3 ⟨rfl, rfl⟩
    go_wp2_with fail
    go_ret2
    exact ⟨_, _, hP.out, rfl, h1⟩
  · have hP : Hid (Parsed l0 0 27) := hid (.range _ R.out fun k => by have := k.1.d2; simp only at this; omega)
    clear R
    have u1 : decide ((Y : Int) < 1970) = false := by simp; omega
    have u2 : decide ((M : Int) < 1) = false := by simp; omega
    have u3 : decide (12 < (M : Int)) = false := by simp; omega
    have u4 : decide ((D : Int) < 1) = false := by simp; omega
    have u5 : decide (md Y M < D) = true := by simp; omega
    refine ((tS _).out).mono ?_
    rintro _ w3 ⟨rfl, rfl⟩
    go_wp2_with (go_at_call 43; refine (rmonth_any Y M (by omega) (by omega) (by omega) _).mono ?_; rintro e w3 ⟨rfl, h3⟩; replace h1 := Kept.step h1 h3 (by simp); clear h3)
    go_ret2
    exact ⟨_, _, hP.out, rfl, h1⟩
  · have hP : Hid (Parsed l0 0 27) := hid (.range _ R.out fun k => by have := k.1.h; simp only at this; omega)
    clear R
    have u1 : decide ((Y : Int) < 1970) = false := by simp; omega
    have u2 : decide ((M : Int) < 1) = false := by simp; omega
    have u3 : decide (12 < (M : Int)) = false := by simp; omega
    have u4 : decide ((D : Int) < 1) = false := by simp; omega
    have u5 : decide (md Y M < D) = false := by simp; omega
    have u6 : decide (23 < (H : Int)) = true := by simp; omega
    refine ((tS _).out).mono ?_
    rintro _ w3 ⟨rfl, rfl⟩
    go_wp2_with (go_at_call 43; refine (rmonth_any Y M (by omega) (by omega) (by omega) _).mono ?_; rintro e w3 ⟨rfl, h3⟩; replace h1 := Kept.step h1 h3 (by simp); clear h3)
    go_ret2
    exact ⟨_, _, hP.out, rfl, h1⟩
  · have hP : Hid (Parsed l0 0 27) := hid (.range _ R.out fun k => by have := k.1.i; simp only at this; omega)
    clear R
    have u1 : decide ((Y : Int) < 1970) = false := by simp; omega
    have u2 : decide ((M : Int) < 1) = false := by simp; omega
    have u3 : decide (12 < (M : Int)) = false := by simp; omega
    have u4 : decide ((D : Int) < 1) = false := by simp; omega
    have u5 : decide (md Y M < D) = false := by simp; omega
    have u6 : decide (23 < (H : Int)) = false := by simp; omega
    have u7 : decide (59 < (I : Int)) = true := by simp; omega
    refine ((tS _).out).mono ?_
    rintro _ w3 ⟨rfl, rfl⟩
    go_wp2_with (go_at_call 43; refine (rmonth_any Y M (by omega) (by omega) (by omega) _).mono ?_; rintro e w3 ⟨rfl, h3⟩; replace h1 := Kept.step h1 h3 (by simp); clear h3)
    go_ret2
    exact ⟨_, _, hP.out, rfl, h1⟩
  · have hP : Hid (Parsed l0 0 27) := hid (.range _ R.out fun k => by have := k.1.s; simp only at this; omega)
    clear R
    have u1 : decide ((Y : Int) < 1970) = false := by simp; omega
    have u2 : decide ((M : Int) < 1) = false := by simp; omega
    have u3 : decide (12 < (M : Int)) = false := by simp; omega
    have u4 : decide ((D : Int) < 1) = false := by simp; omega
    have u5 : decide (md Y M < D) = false := by simp; omega
    have u6 : decide (23 < (H : Int)) = false := by simp; omega
    have u7 : decide (59 < (I : Int)) = false := by simp; omega
    have u8 : decide (59 < (S : Int)) = true := by simp; omega
    refine ((tS _).out).mono ?_
    rintro _ w3 ⟨rfl, rfl⟩
    go_wp2_with (go_at_call 43; refine (rmonth_any Y M (by omega) (by omega) (by omega) _).mono ?_; rintro e w3 ⟨rfl, h3⟩; replace h1 := Kept.step h1 h3 (by simp); clear h3)
    go_ret2
    exact ⟨_, _, hP.out, rfl, h1⟩
end Go.Proofs.YtjjmcmchcmfgnaaDoor
