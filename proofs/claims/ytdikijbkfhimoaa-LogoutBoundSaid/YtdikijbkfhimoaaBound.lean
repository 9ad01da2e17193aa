/- LogoutBound, walked: it returns true. -/
import Derived.Test.YtdikijbkfhimoaaBndO
namespace Go.Proofs.Ytdikijbkfhimoaa
open Go.RowKit Go.Maps

theorem after_pos {d k : Nat} (hd : 1 ≤ d) (hk : ¬ k = 0) : 1 ≤ afterN d k := by
  unfold afterN
  have h1 : 2 ^ 1 ≤ 2 ^ k := Nat.pow_le_pow_right (by omega) (by omega)
  have h2 : 1 ≤ 2 ^ k - 1 := by omega
  exact Nat.mul_le_mul hd h2
theorem failN_ne (M i : Nat) : failN M (1, i) ≠ (1, i) := by
  unfold failN
  split <;> simp
set_option maxHeartbeats 8000000 in
set_option maxRecDepth 100000 in
theorem bound_walk (x : Int × Int × Int) (_ : True) {w : World} {a0 : Option Addr} {cap0 : Nat} {cl : List Str} (hc : StrsAt w a0 cl ∧ cl.length ≤ cap0) {a : Option Addr} {cap : Nat} {dn : List Bool} (h : BoolsAt w a dn) :
    Calls Try.prog 8 #[arrV x, .slice a0 cl.length cap0, .slice a dn.length cap] w fun e w' => e = .returned (.bool true) ∧ Below w.heap.size w w' := by
  obtain ⟨x0, x1, x2⟩ := x
  have hf := h.few
  unfold maxLen at hf
  unfold arrV
  dsimp only
  have HSH := hid (fun (W : World) (k : Kept [] w W) => short_any (cap := cap0) (hc.1.keptN k))
  have HH := hid h
  have HC := hid hc
  clear h hc
  go_enter Try.func8, Try.ntmps8
  go_wp2_with fail
  go_quiet (fail)
  obtain ⟨M, hM, hM1, hM2⟩ := mod_eq x0 8 (by omega) (by omega)
  obtain ⟨D, hD, hD1, hD2⟩ := mod_eq x1 3600 (by omega) (by omega)
  have hM' : wrap64 (1 + (wrap64 (x0.tmod 8 + 8)).tmod 8) = (M : Int) := hM
  have hD' : wrap64 (1 + (wrap64 (x1.tmod 3600 + 3600)).tmod 3600) = (D : Int) := hD
  rw [hM', hD']
  clear hM hD hM' hD'
  have KA := hid (((Kept.refl [] w).alloc (.cells #[.int .i64 x0, .int .i64 x1, .int .i64 x2] 51)).drewN nq)
  generalize (w.alloc (.cells #[.int .i64 x0, .int .i64 x1, .int .i64 x2] 51)).drewN nq = wA at *
  have HSA := hid (HSH.out wA KA.out)
  have HCA := hid (HC.out.1.keptN KA.out)
  clear HSH
  have HAL := hid (fun (W : World) (k : Kept [] w W) => (alive_any W).mono (fun e w' (h : e = .returned (.bool true) ∧ Kept [] W w') => show e = .returned (.bool true) ∧ Below w.heap.size w w' from ⟨h.1, (k.step h.2 (by simp)).toBelow (by simp)⟩))
  cases hsw : shortB cl with
  | false =>
    rw [hsw] at HSA
    clear hsw
    go_wp2_with (first
      | (go_at_call 30; refine HSA.out.mono ?_; rintro e w1 ⟨rfl, rfl⟩)
      | (go_at_call 10; refine (HAL.out _ KA.out).mono ?_; rintro e w2 ⟨rfl, hk2⟩))
    go_ret
    exact ⟨rfl, hk2⟩
  | true =>
  have HSO := hid (shortB_ok hsw)
  rw [hsw] at HSA
  clear hsw
  by_cases hn0 : x2 < 0
  · go_wp2_with (first
      | (go_at_call 30; refine HSA.out.mono ?_; rintro e w1 ⟨rfl, rfl⟩)
      | (go_at_call 10; refine (HAL.out _ KA.out).mono ?_; rintro e w2 ⟨rfl, hk2⟩))
    go_ret
    exact ⟨rfl, hk2⟩
  by_cases hn1 : 549755813888 < x2
  · go_wp2_with (first
      | (go_at_call 30; refine HSA.out.mono ?_; rintro e w1 ⟨rfl, rfl⟩)
      | (go_at_call 10; refine (HAL.out _ KA.out).mono ?_; rintro e w2 ⟨rfl, hk2⟩))
    go_ret
    exact ⟨rfl, hk2⟩
  have p0 : 0 ≤ x2 := by omega
  have p1 : x2 ≤ 549755813888 := by omega
  have i0 : decide (x2 < 0) = false := decide_eq_false hn0
  have i1 : decide (549755813888 < x2) = false := decide_eq_false hn1
  clear hn0 hn1
  have HMZ := hid (show (⟨#[115]⟩ : ByteArray).size ≤ maxLen by simp [ByteArray.size, maxLen])
  have HMS := hid (show (⟨#[115]⟩ : ByteArray).data.toList = sS from rfl)
  have HNW := hid (new_st KA.out (most := M) (delay := D) hM1 hM2 hD1 hD2)
  have HBG := hid (fun (W : World) (lb mb : Nat) (h : St w W lb mb M D [] []) => begin_st h ⟨#[115]⟩ HMZ.out (HC.out.1.keptN h.kept) (fun c hc => by have := HSO.out.2 c hc; omega) HC.out.2 x2)
  rw [HMS.out] at HBG
  have m1 : (1 : Int) ≤ M := by omega
  have m2 : (M : Int) ≤ 8 := by omega
  have d1 : (1 : Int) ≤ D := by omega
  have d2 : (D : Int) ≤ 3600 := by omega
  by_cases hb0 : beginE [] sS cl = 0
  · have HB := hid (bnd_start hb0 x2)
    rw [lim_id x2 p0 (by omega)] at HB
    rw [hb0] at HBG
    clear hb0
    go_wp2_with (first
      | (go_at_call 30; refine HSA.out.mono ?_; rintro e w1 ⟨rfl, rfl⟩)
      | (go_at_call 11; refine HNW.out.mono ?_; rintro e w2 ⟨lb, mb, rfl, h2⟩; have H2 := hid h2; clear h2)
      | (go_at_call 13; refine (HBG.out _ _ _ H2.out).mono ?_; rintro e w3 ⟨rfl, h3⟩; have H3 := hid h3; clear h3))
    go_loopw [12, 13] (fun kv iv wr => ∃ (i kN : Nat) (U : Log), i ≤ M ∧ iv = .int .i64 (i : Int) ∧ kv = .int .i64 (kN : Int) ∧ kN ≤ 10 * i ∧ St w wr lb mb M D U [] ∧ Hid (Bnd cl.length x2 U (okR M i))) (fun _ iv _ => M - (intOf iv).toNat)
    case atStart => exact ⟨0, 0, _, Nat.zero_le _, rfl, rfl, by omega, H3.out, hid (HB.out.mono (fun k e => .inr (.inr ⟨e, by omega⟩)))⟩
    case round =>
      obtain ⟨i, kN, U, hi, rfl, rfl, hkN, hS, HBD⟩ := hrel
      have HS := hid hS
      clear hS
      by_cases hlt : i < M
      · have hb1 : (0 : Int) ≤ i := by omega
        have hb2 : (i : Int) < M := by omega
        have hb3 : (i : Int) ≤ 7 := by omega
        have hA := after_bd hD2 (show i ≤ 8 by omega)
        have HE := hid (after_eq (delay := D) (k := i) hD2 (by omega))
        have HT1 := after_bd hD2 (show i ≤ 8 by omega)
        obtain ⟨T, HT⟩ : ∃ T, Hid (x2 + (afterN D i : Nat) = T) := ⟨_, hid rfl⟩
        have hT0 : 0 ≤ T := by have := HT.out; omega
        have hT2 : T ≤ 549756731888 := by have := HT.out; omega
        have HA1 := hid (fun (h : ¬ i = 0) => after_pos hD1 h)
        have hadd : add x2 (afterN D i : Nat) = T := by
          unfold add
          rw [lim_id x2 p0 (by omega), show lim ((afterN D i : Nat) : Int) = (afterN D i : Nat) from lim_id _ (by omega) (by omega), HT.out]
          exact lim_id T hT0 (by omega)
        have HADD := hid (fun W => add_any x2 (afterN D i : Nat) W)
        rw [hadd] at HADD
        clear hadd
        clear HT1 hA
        by_cases hi0 : i = 0
        · subst hi0
          rw [show ((afterN D 0 : Nat) : Int) = 0 by simp [afterN]] at HADD
          have tk1 : True := trivial
          go_wp2_with (first
            | (go_at_call 32; refine (HADD.out _).mono ?_; rintro e w4 ⟨rfl, rfl⟩)
            | (go_at_call 16; have _t := tk1; clear _t tk1; refine (due_st HS.out T).mono ?_; rintro e w6 ⟨m, a6, cap6, hdu, rfl, hp6, hf6, h6⟩))
          have HB5 := hid HBD.out
          have H5 := hid HS.out
          rw [lim_id T (by omega) (by omega)] at hdu h6
          have HMD0 := hid (HB5.out.due hlt HT.out.symm hdu)
          have HDU := hid hdu
          have HP6 := hid hp6
          have HF6 := hid hf6
          have H6 := hid h6
          have hgd := H5.out.good
          have HWD := hid (fun (s c : Str) (h : (s, c) ∈ m) => due_word hgd ((hdu.2 _).1 h))
          have hml := HMD0.out.len hdu.1
          have hcl10 := HSO.out.1
          have hm10 : m.length ≤ 10 := by omega
          clear hdu hp6 hf6 h6 hgd hml hcl10
          go_loopw [12, 16] (fun kv jv wq => ∃ (j kk : Nat) (U2 : Log), j ≤ m.length ∧ jv = .int .i64 (j : Int) ∧ kv = .int .i64 (kk : Int) ∧ kk ≤ 10 * 0 + j ∧ St w wq lb mb M D U2 (pinOf w6 a6 ++ []) ∧ Hid (Mid cl.length M 0 x2 m j U2)) (fun _ jv _ => m.length - (intOf jv).toNat)
          case atStart => exact ⟨0, kN, _, Nat.zero_le _, rfl, rfl, by omega, H6.out, HMD0⟩
          case round =>
            obtain ⟨j, kk, U2, hj, rfl, rfl, hkk, hS2, HMD⟩ := hrel
            have HS2 := hid hS2
            have hpq := list_pin HP6.out (hS2.same (w := w6) (a := a6) (fun q hq => List.mem_append_left _ hq) (fun j hj => (HF6.out j hj).2))
            have hdn := HH.out.keptN hS2.kept
            clear hS2
            have r1 : (0 : Int) ≤ j := by omega
            have r2 : (0 : Int) ≤ kk := by omega
            have r3 : (kk : Int) ≤ 100 := by omega
            by_cases hjl : j < m.length
            · have r4 : (j : Int) < m.length := by omega
              obtain ⟨b1, off1, rfl, hb1, d0, d1⟩ := PrsAt.get hpq hjl
              obtain ⟨hw1, hw2⟩ := HWD.out m[j].1 m[j].2 (List.getElem_mem hjl)
              have HANY := hid (HMD.out.answer HDU.out.1 hjl doneN (.inr rfl) (by simp [doneN]))
              have HANN := hid (HMD.out.answer HDU.out.1 hjl (failN M) (.inl rfl) (failN_ne M 0))
              generalize m[j].1 = y1 at *
              generalize m[j].2 = y2 at *
              have hz1 : (⟨y1.toArray⟩ : ByteArray).size ≤ maxLen := by have := word_len hw1; simp [ByteArray.size, maxLen]; omega
              have hz2 : (⟨y2.toArray⟩ : ByteArray).size ≤ maxLen := by have := word_len hw2; simp [ByteArray.size, maxLen]; omega
              have HDY := hid (fun (W : World) (kw : Kept [] wr W) => done_st (HS2.out.keptN kw) ⟨y1.toArray⟩ ⟨y2.toArray⟩ hz1 hz2 T)
              have HDN := hid (fun (W : World) (kw : Kept [] wr W) => fail_st (HS2.out.keptN kw) ⟨y1.toArray⟩ ⟨y2.toArray⟩ hz1 hz2 T)
              simp only [HANY.out.1] at HDY
              simp only [HANN.out.1] at HDN
              unfold sV at d0 d1
              clear hw1 hw2 hz1 hz2
              by_cases hkl : kk < dn.length
              · obtain ⟨b2, off2, ea, hb2, z0⟩ := BoolsAt.get hdn hkl
                subst ea
                have r5 : (kk : Int) < dn.length := by omega
                cases hbk : dn[kk] with
                | true =>
                  rw [hbk] at z0
                  clear hbk
                  go_wp2_with fail
                  go_region_with (go_at_call 18; refine (HDY.out _ ?_).mono ?_; exact (Kept.refl [] wr).drew; rintro e w7 ⟨rfl, h7⟩; have H7 := hid h7; clear h7)
                  all_goals go_wp2_with fail
                  all_goals exact ⟨⟨j + 1, kk + 1, _, by omega, by go_num, by go_num, by omega, H7.out, hid HANY.out.2⟩, by simp [intOf]; omega⟩
                | false =>
                  rw [hbk] at z0
                  clear hbk
                  go_wp2_with fail
                  go_region_with (go_at_call 20; refine (HDN.out _ ?_).mono ?_; exact (Kept.refl [] wr).drew; rintro e w7 ⟨rfl, h7⟩; have H7 := hid h7; clear h7)
                  all_goals go_wp2_with fail
                  all_goals exact ⟨⟨j + 1, kk + 1, _, by omega, by go_num, by go_num, by omega, H7.out, hid HANN.out.2⟩, by simp [intOf]; omega⟩
              · have r5 : decide ((kk : Int) < dn.length) = false := decide_eq_false (by omega)
                have r6 : (dn.length : Int) ≤ kk := by omega
                go_wp2_with fail
                go_region_with (go_at_call 20; refine (HDN.out _ ?_).mono ?_; exact (Kept.refl [] wr).drew; rintro e w7 ⟨rfl, h7⟩; have H7 := hid h7; clear h7)
                all_goals go_wp2_with fail
                all_goals exact ⟨⟨j + 1, kk + 1, _, by omega, by go_num, by go_num, by omega, H7.out, hid HANN.out.2⟩, by simp [intOf]; omega⟩
            · have hjj : j = m.length := by omega
              subst hjj
              have HOV := hid (HMD.out.over hlt)
              have HSUB := hid (fun (W : World) (h : lim T - lim x2 = T - x2) => h)
              have HLT := hid (show lim T - lim x2 = ((afterN D 0 : Nat) : Int) by rw [lim_id T (by omega) (by omega), lim_id x2 p0 (by omega)]; have := HT.out; omega)
              have HSB := hid (fun (W : World) => sub_any T x2 W)
              rw [HLT.out] at HSB
              clear hpq hdn
              by_cases hlast : 0 + 1 = M
              · have HBN := hid (bound_st HS2.out)
                rw [show M - 1 = 0 by omega] at HBN
                have s1 : (0 : Int) = (M : Int) - 1 := by omega
                have s2 : ((0 : Int) == (M : Int) - 1) = true := by rw [beq_iff_eq]; exact s1
                clear s1 hlast
                generalize afterN D 0 = v at *
                go_wp2_with (first
                  | (go_at_call 33; refine (HSB.out _).mono ?_; rintro e w7 ⟨rfl, rfl⟩)
                  | (go_at_call 27; refine HBN.out.mono ?_; rintro e w8 ⟨rfl, h8⟩; have H8 := hid h8; clear h8))
                go_roundw
                case rel => exact ⟨0 + 1, kk, _, by omega, by go_num, by trivial, by omega, H8.out.sub (by simp), HOV⟩
                case measure => simp [intOf]; omega
              · have s1 : ¬ (0 : Int) = (M : Int) - 1 := by omega
                have s2 : ((0 : Int) == (M : Int) - 1) = false := by rw [beq_eq_false_iff_ne]; exact s1
                have s3 : decide ((0 : Int) = (M : Int) - 1) = false := decide_eq_false s1
                go_wp2_with fail
                go_roundw
                case rel => exact ⟨0 + 1, kk, _, by omega, by go_num, by trivial, by omega, HS2.out.sub (by simp), HOV⟩
                case measure => simp [intOf]; omega
        · have hT1 : 1 ≤ T := by
            have := HA1.out hi0
            have := HT.out
            omega
          have HD1 := hid (fun (W : World) (h : St w W lb mb M D U []) => due_st h (T - 1))
          rw [lim_id (T - 1) (by omega) (by omega)] at HD1
          have HEA := hid (fun (m : List Pr) (hd : Due D (T - 1) U m) => HBD.out.early (show T - 1 < x2 + (afterN D i : Nat) by have := HT.out; omega) hd)
          have hi1 : (0 : Int) < i := by omega
          have hex : wrap64 ((D : Int) * wrap64 (wrap64 (2 ^ i) - 1)) = ((afterN D i : Nat) : Int) := by have h := HE.out; rwa [Int.toNat_natCast] at h
          rw [← hex] at HADD
          clear hex
          have tk1 : True := trivial
          go_wp2_with (first
            | (go_at_call 32; refine (HADD.out _).mono ?_; rintro e w4 ⟨rfl, rfl⟩)
            | (go_at_call 16; have _t := tk2; clear _t tk2; refine (due_st H5.out T).mono ?_; rintro e w6 ⟨m, a6, cap6, hdu, rfl, hp6, hf6, h6⟩)
            | (go_at_call 16; have _t := tk1; clear _t tk1; refine (HD1.out _ HS.out).mono ?_; rintro e w5 ⟨m5, a5, cap5, hd5, rfl, _, _, h5⟩; obtain ⟨hm5, hB5⟩ := HEA.out _ hd5; subst hm5; have H5 := hid (h5.sub (p' := []) (by simp)); have HB5 := hid hB5; clear h5 hd5 hB5; have tk2 : True := trivial))
          rw [lim_id T (by omega) (by omega)] at hdu h6
          have HMD0 := hid (HB5.out.due hlt HT.out.symm hdu)
          have HDU := hid hdu
          have HP6 := hid hp6
          have HF6 := hid hf6
          have H6 := hid h6
          have hgd := H5.out.good
          have HWD := hid (fun (s c : Str) (h : (s, c) ∈ m) => due_word hgd ((hdu.2 _).1 h))
          have hml := HMD0.out.len hdu.1
          have hcl10 := HSO.out.1
          have hm10 : m.length ≤ 10 := by omega
          clear hdu hp6 hf6 h6 hgd hml hcl10
          go_loopw [12, 16] (fun kv jv wq => ∃ (j kk : Nat) (U2 : Log), j ≤ m.length ∧ jv = .int .i64 (j : Int) ∧ kv = .int .i64 (kk : Int) ∧ kk ≤ 10 * i + j ∧ St w wq lb mb M D U2 (pinOf w6 a6 ++ []) ∧ Hid (Mid cl.length M i x2 m j U2)) (fun _ jv _ => m.length - (intOf jv).toNat)
          case atStart => exact ⟨0, kN, _, Nat.zero_le _, rfl, rfl, by omega, H6.out, HMD0⟩
          case round =>
            obtain ⟨j, kk, U2, hj, rfl, rfl, hkk, hS2, HMD⟩ := hrel
            have HS2 := hid hS2
            have hpq := list_pin HP6.out (hS2.same (w := w6) (a := a6) (fun q hq => List.mem_append_left _ hq) (fun j hj => (HF6.out j hj).2))
            have hdn := HH.out.keptN hS2.kept
            clear hS2
            have r1 : (0 : Int) ≤ j := by omega
            have r2 : (0 : Int) ≤ kk := by omega
            have r3 : (kk : Int) ≤ 100 := by omega
            by_cases hjl : j < m.length
            · have r4 : (j : Int) < m.length := by omega
              obtain ⟨b1, off1, rfl, hb1, d0, d1⟩ := PrsAt.get hpq hjl
              obtain ⟨hw1, hw2⟩ := HWD.out m[j].1 m[j].2 (List.getElem_mem hjl)
              have HANY := hid (HMD.out.answer HDU.out.1 hjl doneN (.inr rfl) (by simp [doneN]))
              have HANN := hid (HMD.out.answer HDU.out.1 hjl (failN M) (.inl rfl) (failN_ne M i))
              generalize m[j].1 = y1 at *
              generalize m[j].2 = y2 at *
              have hz1 : (⟨y1.toArray⟩ : ByteArray).size ≤ maxLen := by have := word_len hw1; simp [ByteArray.size, maxLen]; omega
              have hz2 : (⟨y2.toArray⟩ : ByteArray).size ≤ maxLen := by have := word_len hw2; simp [ByteArray.size, maxLen]; omega
              have HDY := hid (fun (W : World) (kw : Kept [] wr W) => done_st (HS2.out.keptN kw) ⟨y1.toArray⟩ ⟨y2.toArray⟩ hz1 hz2 T)
              have HDN := hid (fun (W : World) (kw : Kept [] wr W) => fail_st (HS2.out.keptN kw) ⟨y1.toArray⟩ ⟨y2.toArray⟩ hz1 hz2 T)
              simp only [HANY.out.1] at HDY
              simp only [HANN.out.1] at HDN
              unfold sV at d0 d1
              clear hw1 hw2 hz1 hz2
              by_cases hkl : kk < dn.length
              · obtain ⟨b2, off2, ea, hb2, z0⟩ := BoolsAt.get hdn hkl
                subst ea
                have r5 : (kk : Int) < dn.length := by omega
                cases hbk : dn[kk] with
                | true =>
                  rw [hbk] at z0
                  clear hbk
                  go_wp2_with fail
                  go_region_with (go_at_call 18; refine (HDY.out _ ?_).mono ?_; exact (Kept.refl [] wr).drew; rintro e w7 ⟨rfl, h7⟩; have H7 := hid h7; clear h7)
                  all_goals go_wp2_with fail
                  all_goals exact ⟨⟨j + 1, kk + 1, _, by omega, by go_num, by go_num, by omega, H7.out, hid HANY.out.2⟩, by simp [intOf]; omega⟩
                | false =>
                  rw [hbk] at z0
                  clear hbk
                  go_wp2_with fail
                  go_region_with (go_at_call 20; refine (HDN.out _ ?_).mono ?_; exact (Kept.refl [] wr).drew; rintro e w7 ⟨rfl, h7⟩; have H7 := hid h7; clear h7)
                  all_goals go_wp2_with fail
                  all_goals exact ⟨⟨j + 1, kk + 1, _, by omega, by go_num, by go_num, by omega, H7.out, hid HANN.out.2⟩, by simp [intOf]; omega⟩
              · have r5 : decide ((kk : Int) < dn.length) = false := decide_eq_false (by omega)
                have r6 : (dn.length : Int) ≤ kk := by omega
                go_wp2_with fail
                go_region_with (go_at_call 20; refine (HDN.out _ ?_).mono ?_; exact (Kept.refl [] wr).drew; rintro e w7 ⟨rfl, h7⟩; have H7 := hid h7; clear h7)
                all_goals go_wp2_with fail
                all_goals exact ⟨⟨j + 1, kk + 1, _, by omega, by go_num, by go_num, by omega, H7.out, hid HANN.out.2⟩, by simp [intOf]; omega⟩
            · have hjj : j = m.length := by omega
              subst hjj
              have HOV := hid (HMD.out.over hlt)
              have HSUB := hid (fun (W : World) (h : lim T - lim x2 = T - x2) => h)
              have HLT := hid (show lim T - lim x2 = ((afterN D i : Nat) : Int) by rw [lim_id T (by omega) (by omega), lim_id x2 p0 (by omega)]; have := HT.out; omega)
              have HSB := hid (fun (W : World) => sub_any T x2 W)
              rw [HLT.out] at HSB
              clear hpq hdn
              by_cases hlast : i + 1 = M
              · have HBN := hid (bound_st HS2.out)
                rw [show M - 1 = i by omega] at HBN
                have s1 : ((i : Int) : Int) = (M : Int) - 1 := by omega
                have s2 : (((i : Int) : Int) == (M : Int) - 1) = true := by rw [beq_iff_eq]; exact s1
                clear s1 hlast
                generalize afterN D i = v at *
                go_wp2_with (first
                  | (go_at_call 33; refine (HSB.out _).mono ?_; rintro e w7 ⟨rfl, rfl⟩)
                  | (go_at_call 27; refine HBN.out.mono ?_; rintro e w8 ⟨rfl, h8⟩; have H8 := hid h8; clear h8))
                go_roundw
                case rel => exact ⟨i + 1, kk, _, by omega, by go_num, by trivial, by omega, H8.out.sub (by simp), HOV⟩
                case measure => simp [intOf]; omega
              · have s1 : ¬ ((i : Int) : Int) = (M : Int) - 1 := by omega
                have s2 : (((i : Int) : Int) == (M : Int) - 1) = false := by rw [beq_eq_false_iff_ne]; exact s1
                have s3 : decide (((i : Int) : Int) = (M : Int) - 1) = false := decide_eq_false s1
                go_wp2_with fail
                go_roundw
                case rel => exact ⟨i + 1, kk, _, by omega, by go_num, by trivial, by omega, HS2.out.sub (by simp), HOV⟩
                case measure => simp [intOf]; omega
      · have hiM : i = M := by omega
        subst hiM
        obtain ⟨e1, e2, e3⟩ := HBD.out.finish
        obtain ⟨X, Y, Z, HXYZ⟩ : ∃ X Y Z, Hid (statS U sS = (X, Y, Z)) := ⟨_, _, _, hid rfl⟩
        obtain ⟨G, HG⟩ : ∃ G, Hid (givenL U sS = G) := ⟨_, hid rfl⟩
        rw [HXYZ.out] at e1 e2 e3
        rw [HG.out] at e3
        dsimp only at e1 e2 e3
        subst e1
        have hcl10 := HSO.out.1
        have f1 : (X : Int) + Y = cl.length := by omega
        have f2 : (0 : Int) ≤ X := by omega
        have f3 : (0 : Int) ≤ Y := by omega
        have f4 : (X : Int) ≤ 10 := by omega
        have f5 : (Y : Int) ≤ 10 := by omega
        have HSX := hid (status_st HS.out ⟨#[115]⟩ HMZ.out)
        rw [HMS.out, HXYZ.out] at HSX
        dsimp only at HSX
        have HGX := hid (fun (W : World) (h : St w W lb mb i D U []) => given_st h ⟨#[115]⟩ HMZ.out)
        rw [HMS.out, HG.out, e3] at HGX
        clear e2 e3 hcl10
        go_wp2_with (first
          | (go_at_call 22; refine HSX.out.mono ?_; rintro e w5 ⟨rfl, h5⟩; have H5 := hid h5; clear h5)
          | (go_at_call 25; refine (HGX.out _ H5.out).mono ?_; rintro e w6 ⟨ag, cg, rfl, _, _, _, h6⟩; have H6 := hid (h6.sub (p' := []) (by simp)); clear h6)
          | (go_at_call 10; refine (HAL.out _ H6.out.kept).mono ?_; rintro e w7 ⟨rfl, hk7⟩))
        go_ret
        exact ⟨rfl, hk7⟩
  · obtain ⟨v, HV⟩ : ∃ v, Hid (beginE [] sS cl = v) := ⟨_, hid rfl⟩
    rw [HV.out] at hb0 HBG
    have i2 : decide (v = 0) = false := decide_eq_false hb0
    have i3 : (v == 0) = false := by rw [beq_eq_false_iff_ne]; exact hb0
    clear hb0
    go_wp2_with (first
      | (go_at_call 30; refine HSA.out.mono ?_; rintro e w1 ⟨rfl, rfl⟩)
      | (go_at_call 11; refine HNW.out.mono ?_; rintro e w2 ⟨lb, mb, rfl, h2⟩; have H2 := hid h2; clear h2)
      | (go_at_call 13; refine (HBG.out _ _ _ H2.out).mono ?_; rintro e w3 ⟨rfl, h3⟩; have H3 := hid h3; clear h3)
      | (go_at_call 10; refine (HAL.out _ H3.out.kept).mono ?_; rintro e w4 ⟨rfl, hk4⟩))
    go_ret
    exact ⟨rfl, hk4⟩
end Go.Proofs.Ytdikijbkfhimoaa
