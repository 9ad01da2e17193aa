/- LogoutOrders, walked: it returns true. -/
import Derived.Test.YtdikijbkfhimoaaPlain
namespace Go.Proofs.Ytdikijbkfhimoaa
open Go.RowKit Go.Maps

theorem less_eq : ∀ (a b : Str), Op.bytesLess a b = decide (a < b)
  | [], [] => by simp [Op.bytesLess]
  | [], _ :: _ => by simp [Op.bytesLess]
  | _ :: _, [] => by simp [Op.bytesLess]
  | a :: l, b :: m => by
    unfold Op.bytesLess
    rw [less_eq l m]
    by_cases h1 : a < b
    · simp [h1, List.cons_lt_cons_iff]
    · by_cases h2 : a = b
      · simp [h2]
      · simp [h1, h2, List.cons_lt_cons_iff]
theorem wrap_nat (j : Nat) (h : (j : Int) ≤ 9223372036854775806) : IntKind.wrap .i64 (j : Int) = j := by
  simp [IntKind.wrap, IntKind.bits]
  omega
set_option maxHeartbeats 8000000 in
set_option maxRecDepth 100000 in
theorem orders_walk {w : World} {a : Option Addr} {cap : Nat} {l : List OpD} (h : OpsAt w a l) (now : Int) (_ : (Lit.int .i64 now).wf = true) :
    Calls Try.prog 6 #[.slice a l.length cap, .int .i64 now] w fun e w' => e = .returned (.bool true) ∧ Below w.heap.size w w' := by
  have HF := hid (few_any (cap := cap) h)
  have HH := hid h
  have hf := h.cells.few
  unfold maxLen at hf
  clear h
  cases hfw : fewB l with
  | false =>
    rw [hfw] at HF
    clear hfw
    go_enter Try.func6, Try.ntmps6
    go_wp2_with (first
      | (go_at_call 9; refine HF.out.mono ?_; rintro e w1 ⟨rfl, hk1⟩)
      | (go_at_call 10; refine (alive_any _).mono ?_; rintro e w2 ⟨rfl, hk2⟩))
    go_ret
    exact ⟨rfl, (hk1.step hk2 (by simp)).toBelow (by simp)⟩
  | true =>
    have HOK := hid (fewB_ok hfw)
    rw [hfw] at HF
    clear hfw
    go_enter Try.func6, Try.ntmps6
    go_wp2_with (first
      | (go_at_call 9; refine HF.out.mono ?_; rintro e w1 ⟨rfl, hk1⟩)
      | (go_at_call 11; refine (new_st hk1 (most := 8) (delay := 1) (by omega) (by omega) (by omega) (by omega)).mono ?_; rintro e w2 ⟨lb, mb, rfl, h2⟩; have H2 := hid h2; clear h2 hk1))
    go_loopw [7] (fun i wr => ∃ k : Nat, k ≤ l.length ∧ i = .int .i64 (k : Int) ∧ ∃ U, St w wr lb mb 8 1 U []) (fun i _ => l.length - (intOf i).toNat)
    case atStart => exact ⟨0, Nat.zero_le _, rfl, _, H2.out⟩
    case round =>
      obtain ⟨k, hk, rfl, U, hS⟩ := hrel
      have HS := hid hS
      clear hS
      by_cases hlt : k < l.length
      · obtain ⟨b, off, rfl, hb, hc, hL⟩ := (HH.out.keptN HS.out.kept).get hlt
        have hb1 : (0 : Int) ≤ k := by omega
        have hb2 : (k : Int) < l.length := by omega
        have hsm := small_of (HOK.out.2 _ (List.getElem_mem hlt))
        generalize l[k] = x at *
        have HPL := hid (play_st HS.out x hL hsm)
        obtain ⟨c0, c1, c2, c3, c4⟩ := hc
        unfold encO sV at HPL
        clear hL hsm
        obtain ⟨xk, xi, xc, xl, xn, xa, xq⟩ := x
        dsimp only at *
        by_cases k0 : xk = 0
        · subst k0
          go_wp2_with (go_at_call 29; refine HPL.out.mono ?_; rintro e w3 ⟨m, a3, cap3, _, rfl, _, _, h3⟩; have H3 := hid (h3.sub (p' := []) (by simp)); clear h3)
          go_roundw
          case rel => exact ⟨k + 1, by omega, by go_num, _, H3.out⟩
          case measure => simp [intOf]; omega
        · have i0 : decide (xk = 0) = false := decide_eq_false k0
          go_wp2_with fail
          go_roundw
          case rel => exact ⟨k + 1, by omega, by go_num, U, HS.out⟩
          case measure => simp [intOf]; omega
      · go_wp2_with (go_at_call 16; refine (due_st HS.out now).mono ?_; rintro e w3 ⟨m, a3, cap3, hdu, rfl, hp3, hf3, h3⟩)
        have HDU := hid hdu
        have HP3 := hid hp3
        have HF3 := hid hf3
        have H3 := hid h3
        have hgd := HS.out.good
        have HWD := hid (fun (s c : Str) (h : (s, c) ∈ m) => due_word hgd ((hdu.2 _).1 h))
        have hml : m.length ≤ maxLen := hp3.few
        unfold maxLen at hml
        clear hdu hp3 hf3 h3 hgd H2 HF
        go_loopw [9] (fun i wq => ∃ k : Nat, k ≤ m.length ∧ i = .int .i64 (k : Int) ∧ ∃ U', St w wq lb mb 8 1 U' (pinOf w3 a3 ++ []) ∧ Hid (OrdTo 1 (lim now) m k U')) (fun i _ => m.length - (intOf i).toNat)
        case atStart => exact ⟨0, Nat.zero_le _, rfl, _, H3.out, hid (OrdTo.start HDU.out)⟩
        case round =>
          obtain ⟨i, hi, rfl, U2, hS2, HO⟩ := hrel
          have HS2 := hid hS2
          clear hS2
          have hpq := list_pin HP3.out (HS2.out.same (w := w3) (a := a3) (fun q hq => List.mem_append_left _ hq) (fun j hj => (HF3.out j hj).2))
          by_cases hlt2 : i < m.length
          · obtain ⟨b2, off2, rfl, hb2, d0, d1⟩ := PrsAt.get hpq hlt2
            have hb3 : (0 : Int) ≤ i := by omega
            have hb4 : (i : Int) < m.length := by omega
            obtain ⟨hw1, hw2⟩ := HWD.out m[i].1 m[i].2 (List.getElem_mem hlt2)
            obtain ⟨he, hnx⟩ := HO.out.next HDU.out hlt2
            have HNX := hid hnx
            have HPW := hid (fun j (hj : j < i) => show pairLt (m[j].1, m[j].2) (m[i].1, m[i].2) from List.pairwise_iff_getElem.1 HDU.out.1 j i (by omega) hlt2 hj)
            generalize m[i].1 = x1 at *
            generalize m[i].2 = x2 at *
            have HWA := hid (fun (n : Nat) => Calls.quiet_of_same (n := n) (w := wr) (v := .bool true) (by
              have h := word_any ⟨x1.toArray⟩ (wr.drewN n) (by have := word_len hw1; simp [ByteArray.size, maxLen]; omega)
              rw [sized, hw1] at h
              exact h.mono fun _ _ h => ⟨h.1, h.2.symm⟩))
            have HWB := hid (fun (n : Nat) => Calls.quiet_of_same (n := n) (w := wr) (v := .bool true) (by
              have h := word_any ⟨x2.toArray⟩ (wr.drewN n) (by have := word_len hw2; simp [ByteArray.size, maxLen]; omega)
              rw [sized, hw2] at h
              exact h.mono fun _ _ h => ⟨h.1, h.2.symm⟩))
            have HDN := hid (fun (W : World) (kw : Kept [] wr W) => done_st (HS2.out.keptN kw) ⟨x1.toArray⟩ ⟨x2.toArray⟩ (by have := word_len hw1; simp [ByteArray.size, maxLen]; omega) (by have := word_len hw2; simp [ByteArray.size, maxLen]; omega) now)
            simp only [he] at HDN
            unfold sV at d0 d1
            clear hw1 hw2 he hnx
            rcases i with _ | j
            · simp only [Nat.zero_mul, Nat.add_zero] at d0 d1
              go_wp2_with fail
              go_quiet (first
                | (go_at_call 31; with_reducible exact HWA.out _)
                | (go_at_call 31; with_reducible exact HWB.out _))
              go_wp2_with fail
              go_region_with (go_at_call 18; refine (HDN.out _ ?_).mono ?_; exact ((Kept.refl [] wr).drewN _).drew; rintro e w5 ⟨rfl, h5⟩; have H5 := hid h5; clear h5)
              all_goals go_wp2_with fail
              all_goals exact ⟨⟨1, by omega, by go_num, _, H5.out, HNX⟩, by simp [intOf]; omega⟩
            · have q1 : (0 : Int) ≤ j := by omega
              have q2 : (j : Int) + 1 < m.length := by omega
              have q3 : ((j : Int) + 1).toNat = j + 1 := by omega
              have q4 : (0 : Int) ≤ (j : Int) + 1 := by omega
              have q5 : (j : Int) < m.length := by omega
              have q6 : (j : Int) ≤ 9223372036854775806 := by omega
              have q7 := wrap_nat j q6
              obtain ⟨b3, off3, e3, _, p0, p1⟩ := PrsAt.get hpq (show j < m.length by omega)
              injection e3 with e3
              injection e3 with e3 e4 _
              subst e3
              subst e4
              have HPJ := hid (HPW.out j (by omega))
              generalize m[j].1 = y1 at *
              generalize m[j].2 = y2 at *
              unfold sV at p0 p1
              clear HPW
              rcases HPJ.out with hA | ⟨hB1, hB2⟩
              · have z1 : Op.bytesLess y1 x1 = true := by rw [less_eq]; exact decide_eq_true hA
                have z2 : (y1 == x1) = false := by rw [beq_eq_false_iff_ne]; intro e; rw [e] at hA; exact List.lt_irrefl _ hA
                clear hA HPJ
                go_wp2_with fail
                go_quiet (first
                  | (go_at_call 31; with_reducible exact HWA.out _)
                  | (go_at_call 31; with_reducible exact HWB.out _))
                go_wp2_with fail
                go_region_with (go_at_call 18; refine (HDN.out _ ?_).mono ?_; exact ((Kept.refl [] wr).drewN _).drew; rintro e w5 ⟨rfl, h5⟩; have H5 := hid h5; clear h5)
                all_goals go_wp2_with fail
                all_goals exact ⟨⟨j + 2, by omega, by go_num, _, H5.out, HNX⟩, by simp [intOf]; omega⟩
              · have z1 : Op.bytesLess y2 x2 = true := by rw [less_eq]; exact decide_eq_true hB2
                simp only at hB1
                subst hB1
                clear hB2 HPJ
                go_wp2_with fail
                go_quiet (first
                  | (go_at_call 31; with_reducible exact HWA.out _)
                  | (go_at_call 31; with_reducible exact HWB.out _))
                go_wp2_with fail
                go_region_with (go_at_call 18; refine (HDN.out _ ?_).mono ?_; exact ((Kept.refl [] wr).drewN _).drew; rintro e w5 ⟨rfl, h5⟩; have H5 := hid h5; clear h5)
                all_goals go_wp2_with fail
                all_goals exact ⟨⟨j + 2, by omega, by go_num, _, H5.out, HNX⟩, by simp [intOf]; omega⟩
          · have HNO := hid HO.out.no.due
            clear hpq
            go_wp2_with (first
              | (go_at_call 16; refine (due_st HS2.out now).mono ?_; rintro e w5 ⟨m5, a5, cap5, hd5, rfl, _, _, h5⟩; obtain rfl := hd5.uniq HNO.out; have H5 := hid h5; clear h5 hd5)
              | (go_at_call 10; refine (alive_any _).mono ?_; rintro e w6 ⟨rfl, hk6⟩))
            go_ret
            exact ⟨rfl, (H5.out.kept.step hk6 (by simp)).toBelow (by simp)⟩
end Go.Proofs.Ytdikijbkfhimoaa
