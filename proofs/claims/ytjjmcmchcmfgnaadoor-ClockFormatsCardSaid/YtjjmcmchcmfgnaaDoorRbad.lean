/- Contract: Parse of the reference, at 20 bytes. -/
import Derived.Test.YtjjmcmchcmfgnaaDoorParse
namespace Go.Proofs.YtjjmcmchcmfgnaaDoor
open Go.RowKit

theorem digits_at (s : ByteArray) (i j : Nat) (l : List UInt8) (h : (s.extract i j).data.toList = l) (hl : l.length ≤ 5) (w : World) :
    Calls Tryd.prog 42 #[.string (s.extract i j)] w fun e w' => e = .returned (.tuple #[.int .i64 (digN l : Int), .bool (l.all isd)]) ∧ w = w' := by
  subst h
  exact (digits_any _ hl w).mono fun _ _ h => ⟨h.1, h.2.symm⟩
theorem digits_good (s : ByteArray) (i j : Nat) (l : List UInt8) (h : (s.extract i j).data.toList = l) (hl : l.length ≤ 5) (hd : l.all isd = true) (w : World) :
    Calls Tryd.prog 42 #[.string (s.extract i j)] w fun e w' => e = .returned (.tuple #[.int .i64 (num l : Int), .bool true]) ∧ w = w' := by
  have k := digits_at s i j l h hl w
  rw [hd] at k
  rw [digN, if_pos hd] at k
  exact k
set_option maxHeartbeats 4000000 in
set_option maxRecDepth 100000 in
theorem rbad20 (s : ByteArray) (l0 : List UInt8) (hsz : s.size = 20) (y1 y2 y3 y4 a b c d e f g q i j : UInt8) (EL : l0 = [y1, y2, y3, y4, 45, a, b, 45, c, d, 84, e, f, 58, g, q, 58, i, j, 90]) (ES : s.data.toList = [y1, y2, y3, y4, 45, a, b, 45, c, d, 84, e, f, 58, g, q, 58, i, j, 90])
    (hy1 : isd y1 = true) (hy2 : isd y2 = true) (hy3 : isd y3 = true) (hy4 : isd y4 = true) (ha : isd a = true) (hb : isd b = true) (hc : isd c = true) (hd : isd d = true) (he : isd e = true) (hf : isd f = true) (hg : isd g = true) (hq : isd q = true) (hi : isd i = true) (hj : isd j = true) (hno : ¬ Cal.Ok ⟨num [y1, y2, y3, y4], num [a, b], num [c, d], num [e, f], num [g, q], num [i, j]⟩) (w : World) :
    Calls Tryd.prog 26 #[.string s] w (ParsedBy l0 w) := by
  have EL := hid EL
  have ES := hid ES
  have q0 : (s[4].toNat : Int) = 45 := by
    rw [show s[4] = 45 by
      rw [← list_get s 4 (by omega) (by show 4 < s.size; omega)]
      simp only [ES.out]
      rfl]
    rfl
  have q1 : (s[7].toNat : Int) = 45 := by
    rw [show s[7] = 45 by
      rw [← list_get s 7 (by omega) (by show 7 < s.size; omega)]
      simp only [ES.out]
      rfl]
    rfl
  have q2 : (s[10].toNat : Int) = 84 := by
    rw [show s[10] = 84 by
      rw [← list_get s 10 (by omega) (by show 10 < s.size; omega)]
      simp only [ES.out]
      rfl]
    rfl
  have q3 : (s[13].toNat : Int) = 58 := by
    rw [show s[13] = 58 by
      rw [← list_get s 13 (by omega) (by show 13 < s.size; omega)]
      simp only [ES.out]
      rfl]
    rfl
  have q4 : (s[16].toNat : Int) = 58 := by
    rw [show s[16] = 58 by
      rw [← list_get s 16 (by omega) (by show 16 < s.size; omega)]
      simp only [ES.out]
      rfl]
    rfl
  have q5 : (s[19].toNat : Int) = 90 := by
    rw [show s[19] = 90 by
      rw [← list_get s 19 (by omega) (by show 19 < s.size; omega)]
      simp only [ES.out]
      rfl]
    rfl
  have tY := fun W => hid (digits_good s 0 4 [y1, y2, y3, y4] (by rw [str_of ES.out]; simp) (by simp) (by simp [*]) W)
  have tM := fun W => hid (digits_good s 5 7 [a, b] (by rw [str_of ES.out]; simp) (by simp) (by simp [*]) W)
  have tD := fun W => hid (digits_good s 8 10 [c, d] (by rw [str_of ES.out]; simp) (by simp) (by simp [*]) W)
  have tH := fun W => hid (digits_good s 11 13 [e, f] (by rw [str_of ES.out]; simp) (by simp) (by simp [*]) W)
  have tI := fun W => hid (digits_good s 14 16 [g, q] (by rw [str_of ES.out]; simp) (by simp) (by simp [*]) W)
  have tS := fun W => hid (digits_good s 17 19 [i, j] (by rw [str_of ES.out]; simp) (by simp) (by simp [*]) W)
  have R := hid (Reads.four y1 y2 y3 y4 a b c d e f g q i j hy1 hy2 hy3 hy4 ha hb hc hd he hf hg hq hi hj)
  have b0 := num4_lt hy1 hy2 hy3 hy4
  have bM := num2_lt ha hb
  have bD := num2_lt hc hd
  have bH := num2_lt he hf
  have bI := num2_lt hg hq
  have bS := num2_lt hi hj
  clear hy1 hy2 hy3 hy4 ha hb hc hd he hf hg hq hi hj
  rw [← EL.out] at R
  clear EL ES
  generalize num [y1, y2, y3, y4] = Y at *
  generalize num [a, b] = M at *
  generalize num [c, d] = D at *
  generalize num [e, f] = H at *
  generalize num [g, q] = I at *
  generalize num [i, j] = S at *
  have hY1 : Y < 100000 := by omega
  have h1 : Kept [] w w := Kept.refl _ _
  have k9 : True := trivial
  go_enter Tryd.func26, Tryd.ntmps26
  go_wp2_with (first
    | (go_at_call 42; have _t := k4; clear _t k4; refine ((tI _).out).mono ?_; rintro _ w3 ⟨rfl, rfl⟩; have k5 : True := trivial)
    | (go_at_call 42; have _t := k3; clear _t k3; refine ((tH _).out).mono ?_; rintro _ w3 ⟨rfl, rfl⟩; have k4 : True := trivial)
    | (go_at_call 42; have _t := k2; clear _t k2; refine ((tD _).out).mono ?_; rintro _ w3 ⟨rfl, rfl⟩; have k3 : True := trivial)
    | (go_at_call 42; have _t := k1; clear _t k1; refine ((tM _).out).mono ?_; rintro _ w3 ⟨rfl, rfl⟩; have k2 : True := trivial)
    | (go_at_call 42; have _t := k9; clear _t k9; refine ((tY _).out).mono ?_; rintro _ w3 ⟨rfl, rfl⟩; have k1 : True := trivial))
  clear tY tM tD tH tI
  rcases (show (Y < 1970) ∨ (1970 ≤ Y ∧ M < 1) ∨ (1970 ≤ Y ∧ 1 ≤ M ∧ 12 < M) ∨ (1970 ≤ Y ∧ 1 ≤ M ∧ M ≤ 12 ∧ D < 1) ∨ (1970 ≤ Y ∧ 1 ≤ M ∧ M ≤ 12 ∧ 1 ≤ D ∧ md Y M < D) ∨ (1970 ≤ Y ∧ 1 ≤ M ∧ M ≤ 12 ∧ 1 ≤ D ∧ D ≤ md Y M ∧ 23 < H) ∨ (1970 ≤ Y ∧ 1 ≤ M ∧ M ≤ 12 ∧ 1 ≤ D ∧ D ≤ md Y M ∧ H ≤ 23 ∧ 59 < I) ∨ (1970 ≤ Y ∧ 1 ≤ M ∧ M ≤ 12 ∧ 1 ≤ D ∧ D ≤ md Y M ∧ H ≤ 23 ∧ I ≤ 59 ∧ 59 < S) by
    apply Decidable.byContradiction
    intro hx
    exact hno ⟨by show 1970 ≤ Y; omega, by show 1 ≤ M; omega, by show M ≤ 12; omega, by show 1 ≤ D; omega, by show D ≤ md Y M; omega, by show H ≤ 23; omega, by show I ≤ 59; omega, by show S ≤ 59; omega⟩) with v1 | ⟨v1, v2⟩ | ⟨v1, v2, v3⟩ | ⟨v1, v2, v3, v4⟩ | ⟨v1, v2, v3, v4, v5⟩ | ⟨v1, v2, v3, v4, v5, v6⟩ | ⟨v1, v2, v3, v4, v5, v6, v7⟩ | ⟨v1, v2, v3, v4, v5, v6, v7, v8⟩
  · have hP : Hid (Parsed l0 0 27) := hid (.range _ R.out fun k => by have := k.1.y; simp only at this; omega)
    clear R
    have u1 : decide ((Y : Int) < 1970) = true := by simp; omega
    refine ((tS _).out).mono ?_
    rintro _ w3 ⟨rfl, rfl⟩
    go_wp2_with fail
    go_ret2
    exact ⟨_, _, hP.out, rfl, h1⟩
  · have hP : Hid (Parsed l0 0 27) := hid (.range _ R.out fun k => by have := k.1.m1; simp only at this; omega)
    clear R
    have u1 : decide ((Y : Int) < 1970) = false := by simp; omega
    have u2 : decide ((M : Int) < 1) = true := by simp; omega
    refine ((tS _).out).mono ?_
    rintro _ w3 ⟨rfl, rfl⟩
    go_wp2_with fail
    go_ret2
    exact ⟨_, _, hP.out, rfl, h1⟩
  · have hP : Hid (Parsed l0 0 27) := hid (.range _ R.out fun k => by have := k.1.m2; simp only at this; omega)
    clear R
    have u1 : decide ((Y : Int) < 1970) = false := by simp; omega
    have u2 : decide ((M : Int) < 1) = false := by simp; omega
    have u3 : decide (12 < (M : Int)) = true := by simp; omega
    refine ((tS _).out).mono ?_
    rintro _ w3 ⟨rfl, rfl⟩
    go_wp2_with fail
    go_ret2
    exact ⟨_, _, hP.out, rfl, h1⟩
  · have hP : Hid (Parsed l0 0 27) := hid (.range _ R.out fun k => by have := k.1.d1; simp only at this; omega)
    clear R
    have u1 : decide ((Y : Int) < 1970) = false := by simp; omega
    have u2 : decide ((M : Int) < 1) = false := by simp; omega
    have u3 : decide (12 < (M : Int)) = false := by simp; omega
    have u4 : decide ((D : Int) < 1) = true := by simp; omega
    refine ((tS _).out).mono ?_
    rintro _ w3 ⟨rfl, rfl⟩
    go_wp2_with fail
    go_ret2
    exact ⟨_, _, hP.out, rfl, h1⟩
  · have hP : Hid (Parsed l0 0 27) := hid (.range _ R.out fun k => by have := k.1.d2; simp only at this; omega)
    clear R
    have u1 : decide ((Y : Int) < 1970) = false := by simp; omega
    have u2 : decide ((M : Int) < 1) = false := by simp; omega
    have u3 : decide (12 < (M : Int)) = false := by simp; omega
    have u4 : decide ((D : Int) < 1) = false := by simp; omega
    have u5 : decide (md Y M < D) = true := by simp; omega
    refine ((tS _).out).mono ?_
    rintro _ w3 ⟨rfl, rfl⟩
    go_wp2_with (go_at_call 43; refine (rmonth_any Y M (by omega) (by omega) (by omega) _).mono ?_; rintro e w3 ⟨rfl, h3⟩; replace h1 := Kept.step h1 h3 (by simp); clear h3)
    go_ret2
    exact ⟨_, _, hP.out, rfl, h1⟩
  · have hP : Hid (Parsed l0 0 27) := hid (.range _ R.out fun k => by have := k.1.h; simp only at this; omega)
    clear R
    have u1 : decide ((Y : Int) < 1970) = false := by simp; omega
    have u2 : decide ((M : Int) < 1) = false := by simp; omega
    have u3 : decide (12 < (M : Int)) = false := by simp; omega
    have u4 : decide ((D : Int) < 1) = false := by simp; omega
    have u5 : decide (md Y M < D) = false := by simp; omega
    have u6 : decide (23 < (H : Int)) = true := by simp; omega
    refine ((tS _).out).mono ?_
    rintro _ w3 ⟨rfl, rfl⟩
    go_wp2_with (go_at_call 43; refine (rmonth_any Y M (by omega) (by omega) (by omega) _).mono ?_; rintro e w3 ⟨rfl, h3⟩; replace h1 := Kept.step h1 h3 (by simp); clear h3)
    go_ret2
    exact ⟨_, _, hP.out, rfl, h1⟩
  · have hP : Hid (Parsed l0 0 27) := hid (.range _ R.out fun k => by have := k.1.i; simp only at this; omega)
    clear R
    have u1 : decide ((Y : Int) < 1970) = false := by simp; omega
    have u2 : decide ((M : Int) < 1) = false := by simp; omega
    have u3 : decide (12 < (M : Int)) = false := by simp; omega
    have u4 : decide ((D : Int) < 1) = false := by simp; omega
    have u5 : decide (md Y M < D) = false := by simp; omega
    have u6 : decide (23 < (H : Int)) = false := by simp; omega
    have u7 : decide (59 < (I : Int)) = true := by simp; omega
    refine ((tS _).out).mono ?_
    rintro _ w3 ⟨rfl, rfl⟩
    go_wp2_with (go_at_call 43; refine (rmonth_any Y M (by omega) (by omega) (by omega) _).mono ?_; rintro e w3 ⟨rfl, h3⟩; replace h1 := Kept.step h1 h3 (by simp); clear h3)
    go_ret2
    exact ⟨_, _, hP.out, rfl, h1⟩
  · have hP : Hid (Parsed l0 0 27) := hid (.range _ R.out fun k => by have := k.1.s; simp only at this; omega)
    clear R
    have u1 : decide ((Y : Int) < 1970) = false := by simp; omega
    have u2 : decide ((M : Int) < 1) = false := by simp; omega
    have u3 : decide (12 < (M : Int)) = false := by simp; omega
    have u4 : decide ((D : Int) < 1) = false := by simp; omega
    have u5 : decide (md Y M < D) = false := by simp; omega
    have u6 : decide (23 < (H : Int)) = false := by simp; omega
    have u7 : decide (59 < (I : Int)) = false := by simp; omega
    have u8 : decide (59 < (S : Int)) = true := by simp; omega
    refine ((tS _).out).mono ?_
    rintro _ w3 ⟨rfl, rfl⟩
    go_wp2_with (go_at_call 43; refine (rmonth_any Y M (by omega) (by omega) (by omega) _).mono ?_; rintro e w3 ⟨rfl, h3⟩; replace h1 := Kept.step h1 h3 (by simp); clear h3)
    go_ret2
    exact ⟨_, _, hP.out, rfl, h1⟩
end Go.Proofs.YtjjmcmchcmfgnaaDoor
