/- Contract: Parse of the reference, at 21 bytes. -/
import Derived.Test.YtjjmcmchcmfgnaaDoorRparse
namespace Go.Proofs.YtjjmcmchcmfgnaaDoor
open Go.RowKit

set_option maxHeartbeats 4000000 in
set_option maxRecDepth 100000 in
theorem rparse21 (s : ByteArray) (l0 : List UInt8) (hl0 : s.data.toList = l0) (hsz : s.size = 21) (h48 : l0[0]? ≠ some 48) (w : World) :
    Calls Tryd.prog 26 #[.string s] w (ParsedBy l0 w) := by
  have hl : l0.length = 21 := by rw [← hl0]; exact hsz
  obtain ⟨y0, r0, e0, hr0⟩ := uncons (n := 20) hl
  obtain ⟨y1, y2, y3, y4, p1, a, b, p2, c, d, p3, e, f, p4, g, q, p5, i, j, p6, er⟩ := list20 hr0
  rw [er] at e0
  clear hr0 er
  have el := e0
  clear e0
  have hn : y0 ≠ 48 := fun h => h48 (by rw [el, h]; rfl)
  clear h48
  have hnn : y0.toNat ≠ 48 := fun h => hn (UInt8.toNat_inj.1 h)
  have hn := hid hn
  have EL := hid el
  have ES := hid (hl0.trans el)
  clear hl0 hl el
  have hne0 : ((s[0].toNat : Int) == 48) = false := by
    have : s[0] = y0 := by
      rw [← list_get s 0 (by omega) (by show 0 < s.size; omega)]
      simp only [ES.out]
      rfl
    rw [this]; simp; omega
  clear hnn
  have g0 := hid (show s[5] = p1 by
    rw [← list_get s 5 (by omega) (by show 5 < s.size; omega)]
    simp only [ES.out]
    rfl)
  have g1 := hid (show s[8] = p2 by
    rw [← list_get s 8 (by omega) (by show 8 < s.size; omega)]
    simp only [ES.out]
    rfl)
  have g2 := hid (show s[11] = p3 by
    rw [← list_get s 11 (by omega) (by show 11 < s.size; omega)]
    simp only [ES.out]
    rfl)
  have g3 := hid (show s[14] = p4 by
    rw [← list_get s 14 (by omega) (by show 14 < s.size; omega)]
    simp only [ES.out]
    rfl)
  have g4 := hid (show s[17] = p5 by
    rw [← list_get s 17 (by omega) (by show 17 < s.size; omega)]
    simp only [ES.out]
    rfl)
  have g5 := hid (show s[20] = p6 by
    rw [← list_get s 20 (by omega) (by show 20 < s.size; omega)]
    simp only [ES.out]
    rfl)
  rcases (Decidable.em (p1 = 45)).symm with s0 | s0
  · have hP : Hid (Parsed l0 0 4) := hid (.form fun z r => by
      rw [EL.out] at r
      cases r
      exact s0 rfl)
    have hnn : ((s[5].toNat : Int) != 45) = true := by
      rw [g0.out]
      have : p1.toNat ≠ 45 := fun h => s0 (UInt8.toNat_inj.1 h)
      simp
      omega
    clear s0
    go_enter Tryd.func26, Tryd.ntmps26
    go_wp2_with fail
    go_ret2
    exact ⟨_, _, hP.out, rfl, Kept.refl _ _⟩
  have q0 : (s[5].toNat : Int) = 45 := by rw [g0.out, s0]; rfl
  subst s0
  rcases (Decidable.em (p2 = 45)).symm with s1 | s1
  · have hP : Hid (Parsed l0 0 4) := hid (.form fun z r => by
      rw [EL.out] at r
      cases r
      exact s1 rfl)
    have hnn : ((s[8].toNat : Int) != 45) = true := by
      rw [g1.out]
      have : p2.toNat ≠ 45 := fun h => s1 (UInt8.toNat_inj.1 h)
      simp
      omega
    clear s1
    go_enter Tryd.func26, Tryd.ntmps26
    go_wp2_with fail
    go_ret2
    exact ⟨_, _, hP.out, rfl, Kept.refl _ _⟩
  have q1 : (s[8].toNat : Int) = 45 := by rw [g1.out, s1]; rfl
  subst s1
  rcases (Decidable.em (p3 = 84)).symm with s2 | s2
  · have hP : Hid (Parsed l0 0 4) := hid (.form fun z r => by
      rw [EL.out] at r
      cases r
      exact s2 rfl)
    have hnn : ((s[11].toNat : Int) != 84) = true := by
      rw [g2.out]
      have : p3.toNat ≠ 84 := fun h => s2 (UInt8.toNat_inj.1 h)
      simp
      omega
    clear s2
    go_enter Tryd.func26, Tryd.ntmps26
    go_wp2_with fail
    go_ret2
    exact ⟨_, _, hP.out, rfl, Kept.refl _ _⟩
  have q2 : (s[11].toNat : Int) = 84 := by rw [g2.out, s2]; rfl
  subst s2
  rcases (Decidable.em (p4 = 58)).symm with s3 | s3
  · have hP : Hid (Parsed l0 0 4) := hid (.form fun z r => by
      rw [EL.out] at r
      cases r
      exact s3 rfl)
    have hnn : ((s[14].toNat : Int) != 58) = true := by
      rw [g3.out]
      have : p4.toNat ≠ 58 := fun h => s3 (UInt8.toNat_inj.1 h)
      simp
      omega
    clear s3
    go_enter Tryd.func26, Tryd.ntmps26
    go_wp2_with fail
    go_ret2
    exact ⟨_, _, hP.out, rfl, Kept.refl _ _⟩
  have q3 : (s[14].toNat : Int) = 58 := by rw [g3.out, s3]; rfl
  subst s3
  rcases (Decidable.em (p5 = 58)).symm with s4 | s4
  · have hP : Hid (Parsed l0 0 4) := hid (.form fun z r => by
      rw [EL.out] at r
      cases r
      exact s4 rfl)
    have hnn : ((s[17].toNat : Int) != 58) = true := by
      rw [g4.out]
      have : p5.toNat ≠ 58 := fun h => s4 (UInt8.toNat_inj.1 h)
      simp
      omega
    clear s4
    go_enter Tryd.func26, Tryd.ntmps26
    go_wp2_with fail
    go_ret2
    exact ⟨_, _, hP.out, rfl, Kept.refl _ _⟩
  have q4 : (s[17].toNat : Int) = 58 := by rw [g4.out, s4]; rfl
  subst s4
  rcases (Decidable.em (p6 = 90)).symm with s5 | s5
  · have hP : Hid (Parsed l0 0 4) := hid (.form fun z r => by
      rw [EL.out] at r
      cases r
      exact s5 rfl)
    have hnn : ((s[20].toNat : Int) != 90) = true := by
      rw [g5.out]
      have : p6.toNat ≠ 90 := fun h => s5 (UInt8.toNat_inj.1 h)
      simp
      omega
    clear s5
    go_enter Tryd.func26, Tryd.ntmps26
    go_wp2_with fail
    go_ret2
    exact ⟨_, _, hP.out, rfl, Kept.refl _ _⟩
  have q5 : (s[20].toNat : Int) = 90 := by rw [g5.out, s5]; rfl
  subst s5
  have tY := fun W => hid (digits_at s 0 5 [y0, y1, y2, y3, y4] (by rw [str_of ES.out]; simp) (by simp) W)
  have tM := fun W => hid (digits_at s 6 8 [a, b] (by rw [str_of ES.out]; simp) (by simp) W)
  have tD := fun W => hid (digits_at s 9 11 [c, d] (by rw [str_of ES.out]; simp) (by simp) W)
  have tH := fun W => hid (digits_at s 12 14 [e, f] (by rw [str_of ES.out]; simp) (by simp) W)
  have tI := fun W => hid (digits_at s 15 17 [g, q] (by rw [str_of ES.out]; simp) (by simp) W)
  have tS := fun W => hid (digits_at s 18 20 [i, j] (by rw [str_of ES.out]; simp) (by simp) W)
  cases z0 : [y0, y1, y2, y3, y4].all isd
  · have hP : Hid (Parsed l0 0 4) := hid (.form fun z r => by
      rw [EL.out] at r
      cases r
      simp [*] at z0)
    have e0 := hid (show digN [y0, y1, y2, y3, y4] = 0 by unfold digN; rw [z0]; rfl)
    rw [z0, e0.out] at tY
    clear z0 e0
    have k9 : True := trivial
    go_enter Tryd.func26, Tryd.ntmps26
    go_wp2_with (first
      | (go_at_call 42; have _t := k5; clear _t k5; refine ((tS _).out).mono ?_; rintro _ w3 ⟨rfl, rfl⟩; have k6 : True := trivial)
      | (go_at_call 42; have _t := k4; clear _t k4; refine ((tI _).out).mono ?_; rintro _ w3 ⟨rfl, rfl⟩; have k5 : True := trivial)
      | (go_at_call 42; have _t := k3; clear _t k3; refine ((tH _).out).mono ?_; rintro _ w3 ⟨rfl, rfl⟩; have k4 : True := trivial)
      | (go_at_call 42; have _t := k2; clear _t k2; refine ((tD _).out).mono ?_; rintro _ w3 ⟨rfl, rfl⟩; have k3 : True := trivial)
      | (go_at_call 42; have _t := k1; clear _t k1; refine ((tM _).out).mono ?_; rintro _ w3 ⟨rfl, rfl⟩; have k2 : True := trivial)
      | (go_at_call 42; have _t := k9; clear _t k9; refine ((tY _).out).mono ?_; rintro _ w3 ⟨rfl, rfl⟩; have k1 : True := trivial))
    go_ret2
    exact ⟨_, _, hP.out, rfl, Kept.refl _ _⟩
  have e0 := hid (show digN [y0, y1, y2, y3, y4] = num [y0, y1, y2, y3, y4] by unfold digN; rw [z0]; rfl)
  rw [z0, e0.out] at tY
  cases z1 : [a, b].all isd
  · have hP : Hid (Parsed l0 0 4) := hid (.form fun z r => by
      rw [EL.out] at r
      cases r
      simp [*] at z1)
    have e1 := hid (show digN [a, b] = 0 by unfold digN; rw [z1]; rfl)
    rw [z1, e1.out] at tM
    clear z1 e1
    have k9 : True := trivial
    go_enter Tryd.func26, Tryd.ntmps26
    go_wp2_with (first
      | (go_at_call 42; have _t := k5; clear _t k5; refine ((tS _).out).mono ?_; rintro _ w3 ⟨rfl, rfl⟩; have k6 : True := trivial)
      | (go_at_call 42; have _t := k4; clear _t k4; refine ((tI _).out).mono ?_; rintro _ w3 ⟨rfl, rfl⟩; have k5 : True := trivial)
      | (go_at_call 42; have _t := k3; clear _t k3; refine ((tH _).out).mono ?_; rintro _ w3 ⟨rfl, rfl⟩; have k4 : True := trivial)
      | (go_at_call 42; have _t := k2; clear _t k2; refine ((tD _).out).mono ?_; rintro _ w3 ⟨rfl, rfl⟩; have k3 : True := trivial)
      | (go_at_call 42; have _t := k1; clear _t k1; refine ((tM _).out).mono ?_; rintro _ w3 ⟨rfl, rfl⟩; have k2 : True := trivial)
      | (go_at_call 42; have _t := k9; clear _t k9; refine ((tY _).out).mono ?_; rintro _ w3 ⟨rfl, rfl⟩; have k1 : True := trivial))
    go_ret2
    exact ⟨_, _, hP.out, rfl, Kept.refl _ _⟩
  have e1 := hid (show digN [a, b] = num [a, b] by unfold digN; rw [z1]; rfl)
  rw [z1, e1.out] at tM
  cases z2 : [c, d].all isd
  · have hP : Hid (Parsed l0 0 4) := hid (.form fun z r => by
      rw [EL.out] at r
      cases r
      simp [*] at z2)
    have e2 := hid (show digN [c, d] = 0 by unfold digN; rw [z2]; rfl)
    rw [z2, e2.out] at tD
    clear z2 e2
    have k9 : True := trivial
    go_enter Tryd.func26, Tryd.ntmps26
    go_wp2_with (first
      | (go_at_call 42; have _t := k5; clear _t k5; refine ((tS _).out).mono ?_; rintro _ w3 ⟨rfl, rfl⟩; have k6 : True := trivial)
      | (go_at_call 42; have _t := k4; clear _t k4; refine ((tI _).out).mono ?_; rintro _ w3 ⟨rfl, rfl⟩; have k5 : True := trivial)
      | (go_at_call 42; have _t := k3; clear _t k3; refine ((tH _).out).mono ?_; rintro _ w3 ⟨rfl, rfl⟩; have k4 : True := trivial)
      | (go_at_call 42; have _t := k2; clear _t k2; refine ((tD _).out).mono ?_; rintro _ w3 ⟨rfl, rfl⟩; have k3 : True := trivial)
      | (go_at_call 42; have _t := k1; clear _t k1; refine ((tM _).out).mono ?_; rintro _ w3 ⟨rfl, rfl⟩; have k2 : True := trivial)
      | (go_at_call 42; have _t := k9; clear _t k9; refine ((tY _).out).mono ?_; rintro _ w3 ⟨rfl, rfl⟩; have k1 : True := trivial))
    go_ret2
    exact ⟨_, _, hP.out, rfl, Kept.refl _ _⟩
  have e2 := hid (show digN [c, d] = num [c, d] by unfold digN; rw [z2]; rfl)
  rw [z2, e2.out] at tD
  cases z3 : [e, f].all isd
  · have hP : Hid (Parsed l0 0 4) := hid (.form fun z r => by
      rw [EL.out] at r
      cases r
      simp [*] at z3)
    have e3 := hid (show digN [e, f] = 0 by unfold digN; rw [z3]; rfl)
    rw [z3, e3.out] at tH
    clear z3 e3
    have k9 : True := trivial
    go_enter Tryd.func26, Tryd.ntmps26
    go_wp2_with (first
      | (go_at_call 42; have _t := k5; clear _t k5; refine ((tS _).out).mono ?_; rintro _ w3 ⟨rfl, rfl⟩; have k6 : True := trivial)
      | (go_at_call 42; have _t := k4; clear _t k4; refine ((tI _).out).mono ?_; rintro _ w3 ⟨rfl, rfl⟩; have k5 : True := trivial)
      | (go_at_call 42; have _t := k3; clear _t k3; refine ((tH _).out).mono ?_; rintro _ w3 ⟨rfl, rfl⟩; have k4 : True := trivial)
      | (go_at_call 42; have _t := k2; clear _t k2; refine ((tD _).out).mono ?_; rintro _ w3 ⟨rfl, rfl⟩; have k3 : True := trivial)
      | (go_at_call 42; have _t := k1; clear _t k1; refine ((tM _).out).mono ?_; rintro _ w3 ⟨rfl, rfl⟩; have k2 : True := trivial)
      | (go_at_call 42; have _t := k9; clear _t k9; refine ((tY _).out).mono ?_; rintro _ w3 ⟨rfl, rfl⟩; have k1 : True := trivial))
    go_ret2
    exact ⟨_, _, hP.out, rfl, Kept.refl _ _⟩
  have e3 := hid (show digN [e, f] = num [e, f] by unfold digN; rw [z3]; rfl)
  rw [z3, e3.out] at tH
  cases z4 : [g, q].all isd
  · have hP : Hid (Parsed l0 0 4) := hid (.form fun z r => by
      rw [EL.out] at r
      cases r
      simp [*] at z4)
    have e4 := hid (show digN [g, q] = 0 by unfold digN; rw [z4]; rfl)
    rw [z4, e4.out] at tI
    clear z4 e4
    have k9 : True := trivial
    go_enter Tryd.func26, Tryd.ntmps26
    go_wp2_with (first
      | (go_at_call 42; have _t := k5; clear _t k5; refine ((tS _).out).mono ?_; rintro _ w3 ⟨rfl, rfl⟩; have k6 : True := trivial)
      | (go_at_call 42; have _t := k4; clear _t k4; refine ((tI _).out).mono ?_; rintro _ w3 ⟨rfl, rfl⟩; have k5 : True := trivial)
      | (go_at_call 42; have _t := k3; clear _t k3; refine ((tH _).out).mono ?_; rintro _ w3 ⟨rfl, rfl⟩; have k4 : True := trivial)
      | (go_at_call 42; have _t := k2; clear _t k2; refine ((tD _).out).mono ?_; rintro _ w3 ⟨rfl, rfl⟩; have k3 : True := trivial)
      | (go_at_call 42; have _t := k1; clear _t k1; refine ((tM _).out).mono ?_; rintro _ w3 ⟨rfl, rfl⟩; have k2 : True := trivial)
      | (go_at_call 42; have _t := k9; clear _t k9; refine ((tY _).out).mono ?_; rintro _ w3 ⟨rfl, rfl⟩; have k1 : True := trivial))
    go_ret2
    exact ⟨_, _, hP.out, rfl, Kept.refl _ _⟩
  have e4 := hid (show digN [g, q] = num [g, q] by unfold digN; rw [z4]; rfl)
  rw [z4, e4.out] at tI
  cases z5 : [i, j].all isd
  · have hP : Hid (Parsed l0 0 4) := hid (.form fun z r => by
      rw [EL.out] at r
      cases r
      simp [*] at z5)
    have e5 := hid (show digN [i, j] = 0 by unfold digN; rw [z5]; rfl)
    rw [z5, e5.out] at tS
    clear z5 e5
    have k9 : True := trivial
    go_enter Tryd.func26, Tryd.ntmps26
    go_wp2_with (first
      | (go_at_call 42; have _t := k5; clear _t k5; refine ((tS _).out).mono ?_; rintro _ w3 ⟨rfl, rfl⟩; have k6 : True := trivial)
      | (go_at_call 42; have _t := k4; clear _t k4; refine ((tI _).out).mono ?_; rintro _ w3 ⟨rfl, rfl⟩; have k5 : True := trivial)
      | (go_at_call 42; have _t := k3; clear _t k3; refine ((tH _).out).mono ?_; rintro _ w3 ⟨rfl, rfl⟩; have k4 : True := trivial)
      | (go_at_call 42; have _t := k2; clear _t k2; refine ((tD _).out).mono ?_; rintro _ w3 ⟨rfl, rfl⟩; have k3 : True := trivial)
      | (go_at_call 42; have _t := k1; clear _t k1; refine ((tM _).out).mono ?_; rintro _ w3 ⟨rfl, rfl⟩; have k2 : True := trivial)
      | (go_at_call 42; have _t := k9; clear _t k9; refine ((tY _).out).mono ?_; rintro _ w3 ⟨rfl, rfl⟩; have k1 : True := trivial))
    go_ret2
    exact ⟨_, _, hP.out, rfl, Kept.refl _ _⟩
  have e5 := hid (show digN [i, j] = num [i, j] by unfold digN; rw [z5]; rfl)
  rw [z5, e5.out] at tS
  simp only [List.all_cons, List.all_nil, Bool.and_true, Bool.and_eq_true] at z0 z1 z2 z3 z4 z5
  obtain ⟨hy0, hy1, hy2, hy3, hy4⟩ := z0
  obtain ⟨ha, hb⟩ := z1
  obtain ⟨hc, hd⟩ := z2
  obtain ⟨he, hf⟩ := z3
  obtain ⟨hg, hq⟩ := z4
  obtain ⟨hi, hj⟩ := z5
  rcases Classical.em (Cal.Ok ⟨num [y0, y1, y2, y3, y4], num [a, b], num [c, d], num [e, f], num [g, q], num [i, j]⟩) with ok | no
  · exact rgood21 s l0 hsz y0 y1 y2 y3 y4 a b c d e f g q i j hn.out EL.out ES.out hy0 hy1 hy2 hy3 hy4 ha hb hc hd he hf hg hq hi hj ok w
  · exact rbad21 s l0 hsz y0 y1 y2 y3 y4 a b c d e f g q i j hn.out EL.out ES.out hy0 hy1 hy2 hy3 hy4 ha hb hc hd he hf hg hq hi hj no w
set_option maxHeartbeats 4000000 in
set_option maxRecDepth 100000 in
theorem rparse_any (s : ByteArray) (hs : s.size ≤ 40) (w : World) :
    Calls Tryd.prog 26 #[.string s] w (ParsedBy s.data.toList w) := by
  have hlen : s.data.toList.length = s.size := rfl
  by_cases h20 : s.size = 20
  · exact rparse20 s _ rfl h20 w
  by_cases h21 : s.size = 21
  · have hp : 0 < s.size := by omega
    have hg : s.data.toList[0]? = some s[0] := by
      rw [List.getElem?_eq_getElem (show 0 < s.data.toList.length by omega), list_get s 0 hp (by omega)]
    by_cases h0 : s[0] = 48
    · have hP : Hid (Parsed s.data.toList 0 4) := hid (.form fun z r => by
        have e : s.data.toList[0]? = some 48 := by rw [hg, h0]
        have hl := r.len
        generalize s.data.toList = l at *
        cases r with
        | four => simp at hlen; omega
        | five y0 y1 y2 y3 y4 a b c d e2 f g h i j hy0 hn => exact hn (by simpa using e))
      have hq : (s[0].toNat : Int) = 48 := by rw [h0]; rfl
      clear h0 hg hlen
      go_enter Tryd.func26, Tryd.ntmps26
      go_wp2_with fail
      go_ret2
      exact ⟨_, _, hP.out, rfl, Kept.refl _ _⟩
    · exact rparse21 s _ rfl h21 (by rw [hg]; intro h; injection h with h; exact h0 h) w
  · have hP : Hid (Parsed s.data.toList 0 4) := hid (.form fun z r => by
      rcases r.len with h | h <;> omega)
    have e1 : (((s.size : Int) - 16) != 4) = true := by simp; omega
    have e2 : (((s.size : Int) - 16) != 5) = true := by simp; omega
    have e3 : ¬ ((s.size : Int) - 16 = 4) := by omega
    have e4 : ¬ ((s.size : Int) - 16 = 5) := by omega
    go_enter Tryd.func26, Tryd.ntmps26
    go_wp2_with fail
    go_ret2
    exact ⟨_, _, hP.out, rfl, Kept.refl _ _⟩
end Go.Proofs.YtjjmcmchcmfgnaaDoor
