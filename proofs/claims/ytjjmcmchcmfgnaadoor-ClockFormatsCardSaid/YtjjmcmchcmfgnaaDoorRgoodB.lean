/- Contract: Parse of the reference, at 21 bytes. -/
import Derived.Test.YtjjmcmchcmfgnaaDoorRbadB
namespace Go.Proofs.YtjjmcmchcmfgnaaDoor
open Go.RowKit

set_option maxHeartbeats 4000000 in
set_option maxRecDepth 100000 in
theorem rgood21 (s : ByteArray) (l0 : List UInt8) (hsz : s.size = 21) (y0 y1 y2 y3 y4 a b c d e f g q i j : UInt8) (hn : y0 ≠ 48) (EL : l0 = [y0, y1, y2, y3, y4, 45, a, b, 45, c, d, 84, e, f, 58, g, q, 58, i, j, 90]) (ES : s.data.toList = [y0, y1, y2, y3, y4, 45, a, b, 45, c, d, 84, e, f, 58, g, q, 58, i, j, 90])
    (hy0 : isd y0 = true) (hy1 : isd y1 = true) (hy2 : isd y2 = true) (hy3 : isd y3 = true) (hy4 : isd y4 = true) (ha : isd a = true) (hb : isd b = true) (hc : isd c = true) (hd : isd d = true) (he : isd e = true) (hf : isd f = true) (hg : isd g = true) (hq : isd q = true) (hi : isd i = true) (hj : isd j = true) (hyes : Cal.Ok ⟨num [y0, y1, y2, y3, y4], num [a, b], num [c, d], num [e, f], num [g, q], num [i, j]⟩) (w : World) :
    Calls Tryd.prog 26 #[.string s] w (ParsedBy l0 w) := by
  have EL := hid EL
  have ES := hid ES
  have hnn : y0.toNat ≠ 48 := fun h => hn (UInt8.toNat_inj.1 h)
  have hne0 : ((s[0].toNat : Int) == 48) = false := by
    have : s[0] = y0 := by
      rw [← list_get s 0 (by omega) (by show 0 < s.size; omega)]
      simp only [ES.out]
      rfl
    rw [this]; simp; omega
  clear hnn
  have hn := hid hn
  have q0 : (s[5].toNat : Int) = 45 := by
    rw [show s[5] = 45 by
      rw [← list_get s 5 (by omega) (by show 5 < s.size; omega)]
      simp only [ES.out]
      rfl]
    rfl
  have q1 : (s[8].toNat : Int) = 45 := by
    rw [show s[8] = 45 by
      rw [← list_get s 8 (by omega) (by show 8 < s.size; omega)]
      simp only [ES.out]
      rfl]
    rfl
  have q2 : (s[11].toNat : Int) = 84 := by
    rw [show s[11] = 84 by
      rw [← list_get s 11 (by omega) (by show 11 < s.size; omega)]
      simp only [ES.out]
      rfl]
    rfl
  have q3 : (s[14].toNat : Int) = 58 := by
    rw [show s[14] = 58 by
      rw [← list_get s 14 (by omega) (by show 14 < s.size; omega)]
      simp only [ES.out]
      rfl]
    rfl
  have q4 : (s[17].toNat : Int) = 58 := by
    rw [show s[17] = 58 by
      rw [← list_get s 17 (by omega) (by show 17 < s.size; omega)]
      simp only [ES.out]
      rfl]
    rfl
  have q5 : (s[20].toNat : Int) = 90 := by
    rw [show s[20] = 90 by
      rw [← list_get s 20 (by omega) (by show 20 < s.size; omega)]
      simp only [ES.out]
      rfl]
    rfl
  have tY := fun W => hid (digits_good s 0 5 [y0, y1, y2, y3, y4] (by rw [str_of ES.out]; simp) (by simp) (by simp [*]) W)
  have tM := fun W => hid (digits_good s 6 8 [a, b] (by rw [str_of ES.out]; simp) (by simp) (by simp [*]) W)
  have tD := fun W => hid (digits_good s 9 11 [c, d] (by rw [str_of ES.out]; simp) (by simp) (by simp [*]) W)
  have tH := fun W => hid (digits_good s 12 14 [e, f] (by rw [str_of ES.out]; simp) (by simp) (by simp [*]) W)
  have tI := fun W => hid (digits_good s 15 17 [g, q] (by rw [str_of ES.out]; simp) (by simp) (by simp [*]) W)
  have tS := fun W => hid (digits_good s 18 20 [i, j] (by rw [str_of ES.out]; simp) (by simp) (by simp [*]) W)
  have R := hid (Reads.five y0 y1 y2 y3 y4 a b c d e f g q i j hy0 hn.out hy1 hy2 hy3 hy4 ha hb hc hd he hf hg hq hi hj)
  have b0 : num [y0, y1, y2, y3, y4] < 100000 := by rw [num5_eq]; have := num4_lt hy1 hy2 hy3 hy4; have := dv_le hy0; omega
  have bM := num2_lt ha hb
  have bD := num2_lt hc hd
  have bH := num2_lt he hf
  have bI := num2_lt hg hq
  have bS := num2_lt hi hj
  clear hy0 hy1 hy2 hy3 hy4 ha hb hc hd he hf hg hq hi hj
  rw [← EL.out] at R
  clear EL ES
  generalize num [y0, y1, y2, y3, y4] = Y at *
  generalize num [a, b] = M at *
  generalize num [c, d] = D at *
  generalize num [e, f] = H at *
  generalize num [g, q] = I at *
  generalize num [i, j] = S at *
  have hY1 : Y < 100000 := by omega
  have h1 : Kept [] w w := Kept.refl _ _
  have k9 : True := trivial
  go_enter Tryd.func26, Tryd.ntmps26
  go_wp2_with (first
    | (go_at_call 42; have _t := k4; clear _t k4; refine ((tI _).out).mono ?_; rintro _ w3 ⟨rfl, rfl⟩; have k5 : True := trivial)
    | (go_at_call 42; have _t := k3; clear _t k3; refine ((tH _).out).mono ?_; rintro _ w3 ⟨rfl, rfl⟩; have k4 : True := trivial)
    | (go_at_call 42; have _t := k2; clear _t k2; refine ((tD _).out).mono ?_; rintro _ w3 ⟨rfl, rfl⟩; have k3 : True := trivial)
    | (go_at_call 42; have _t := k1; clear _t k1; refine ((tM _).out).mono ?_; rintro _ w3 ⟨rfl, rfl⟩; have k2 : True := trivial)
    | (go_at_call 42; have _t := k9; clear _t k9; refine ((tY _).out).mono ?_; rintro _ w3 ⟨rfl, rfl⟩; have k1 : True := trivial))
  clear tY tM tD tH tI
  obtain ⟨v1, v2, v3, v4, v5, v6, v7, v8⟩ := hyes
  simp only at v1 v2 v3 v4 v5 v6 v7 v8
  have hok := hid (show Cal.Ok ⟨Y, M, D, H, I, S⟩ from ⟨v1, v2, v3, v4, v5, v6, v7, v8⟩)
  have A := hid (show Cal.at ⟨Y, M, D, H, I, S⟩ = 86400 * (bf Y - bf 1970 + mb Y M + D - 1) + 3600 * H + 60 * I + S from rfl)
  have hD31 := (md_bd Y M v2 v3).2
  have hbf := fun (x : Nat) (h : x ≤ Y) => hid (bf_bd (y := x) (by omega))
  have hmb := fun (m : Nat) (h1 : 1 ≤ m) (h2 : m ≤ 12) => hid (mb_bd Y m h1 h2)
  obtain ⟨q0, hq0⟩ : ∃ q0, q0 = (Y - 1970) / 400 := ⟨_, rfl⟩
  have eq1 := hid (show ((Y : Int) - 1970) / 400 = (q0 : Int) by omega)
  have hq1 : 1970 + 400 * q0 ≤ Y := by omega
  have hq2 : q0 < 250 := by omega
  have hst := hid (show 146097 * q0 = bf (1970 + 400 * q0) - bf 1970 by rw [bf_cycle]; omega)
  clear hq0
  have u1 : decide ((Y : Int) < 1970) = false := by simp; omega
  have u2 : decide ((M : Int) < 1) = false := by simp; omega
  have u3 : decide (12 < (M : Int)) = false := by simp; omega
  have u4 : decide ((D : Int) < 1) = false := by simp; omega
  have u5 : decide (md Y M < D) = false := by simp; omega
  have u6 : decide (23 < (H : Int)) = false := by simp; omega
  have u7 : decide (59 < (I : Int)) = false := by simp; omega
  have u8 : decide (59 < (S : Int)) = false := by simp; omega
  refine ((tS _).out).mono ?_
  rintro _ w3 ⟨rfl, rfl⟩
  go_wp2_with (go_at_call 43; refine (rmonth_any Y M (by omega) (by omega) (by omega) _).mono ?_; rintro e w3 ⟨rfl, h3⟩; replace h1 := Kept.step h1 h3 (by simp); clear h3)
  go_loopw [17, 18] (fun n i wr => ∃ x : Nat, 1970 ≤ x ∧ x ≤ Y ∧ i = .int .i64 (x : Int) ∧ n = .int .i64 ((bf x - bf 1970 : Nat) : Int) ∧ Kept [] w wr) (fun _ i _ => Y - (intOf i).toNat)
  case atStart => exact ⟨1970 + 400 * q0, by omega, hq1, by rw [eq1.out]; go_num, by rw [eq1.out, ← hst.out]; go_num, h1⟩
  case round =>
    clear h1
    obtain ⟨x, hx1, hx2, rfl, rfl, h1⟩ := hrel
    by_cases hlt : x < Y
    · have hN := hid (show bf (x + 1) - bf 1970 = bf x - bf 1970 + yd x by rw [bf_next]; have := bf_mono hx1; omega)
      have hyd := yd_bd x
      have hb := (hbf x hx2).out
      have hc := hid (fun w => ryear_any x (by omega) w)
      generalize bf x - bf 1970 = B at *
      generalize yd x = Z at *
      go_wp2_with (go_at_call 44; refine (hc.out _).mono ?_; rintro e w3 ⟨rfl, rfl⟩)
      go_roundw
      case rel => exact ⟨x + 1, by omega, by omega, by go_num, by rw [hN.out]; go_num, h1⟩
      case measure => simp [intOf]; omega
    · obtain rfl : x = Y := by omega
      have hbd := (hbf x hx2).out
      clear hst
      generalize bf x - bf 1970 = B at *
      have hb1 : decide ((x : Int) < (x : Int)) = false := by simp
      go_wp2_with fail
      go_loopw [17, 19] (fun n i wr => ∃ m : Nat, 1 ≤ m ∧ m ≤ M ∧ i = .int .i64 (m : Int) ∧ n = .int .i64 ((B + mb x m : Nat) : Int) ∧ Kept [] w wr) (fun _ i _ => M - (intOf i).toNat)
      case atStart => exact ⟨1, by omega, v2, rfl, by rw [mb_one]; rfl, h1⟩
      case round =>
        clear h1
        obtain ⟨m, hm1, hm2, rfl, rfl, h1⟩ := hrel
        have hmm := (hmb m hm1 (by omega)).out
        by_cases hlm : m < M
        · have hN := hid (mb_next x m hm1 (by omega))
          have hc := hid (fun w => rmonth_any x m (by omega) hm1 (by omega) w)
          have hm31 := (md_bd x m hm1 (by omega)).2
          generalize mb x m = P at *
          generalize md x m = Z at *
          go_wp2_with (go_at_call 43; refine (hc.out _).mono ?_; rintro e w3 ⟨rfl, h3⟩; replace h1 := Kept.step h1 h3 (by simp); clear h3)
          go_roundw
          case rel => exact ⟨m + 1, by omega, by omega, by go_num, by rw [hN.out]; go_num, h1⟩
          case measure => simp [intOf]; omega
        · obtain rfl : m = M := by omega
          obtain ⟨T, hT⟩ : ∃ T : Nat, T = 86400 * (B + mb x m + D - 1) + 3600 * H + 60 * I + S := ⟨_, rfl⟩
          have hA := hid (A.out.trans hT.symm)
          clear A
          by_cases hle : T ≤ 1099511627776
          · have hP : Hid (Parsed l0 T 0) := hid (by rw [← hA.out]; exact .ok _ R.out hok.out (by rw [hA.out]; exact hle))
            have hle2 : (T : Int) = 86400 * ((B : Int) + (mb x m : Int) + (D : Int) - 1) + 3600 * (H : Int) + 60 * (I : Int) + (S : Int) := by omega
            have hle3 : 86400 * ((B : Int) + (mb x m : Int) + (D : Int) - 1) + 3600 * (H : Int) + 60 * (I : Int) + (S : Int) ≤ 1099511627776 := by omega
            go_wp2_with fail
            go_ret2
            exact ⟨_, _, hP.out, congrArg (fun z => Ending.returned (.tuple #[.int .i64 z, .int .i64 0])) (by omega), h1⟩
          · have hP : Hid (Parsed l0 0 27) := hid (.range _ R.out fun k => by have := k.2; rw [hA.out] at this; omega)
            have hle3 : 1099511627776 < 86400 * ((B : Int) + (mb x m : Int) + (D : Int) - 1) + 3600 * (H : Int) + 60 * (I : Int) + (S : Int) := by omega
            go_wp2_with fail
            go_ret2
            exact ⟨_, _, hP.out, rfl, h1⟩
end Go.Proofs.YtjjmcmchcmfgnaaDoor
