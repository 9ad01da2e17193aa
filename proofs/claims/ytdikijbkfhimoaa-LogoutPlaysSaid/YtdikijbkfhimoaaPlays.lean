/- LogoutPlays, walked: it returns true. Printed by gen_lplays.py. -/
import Derived.Test.YtdikijbkfhimoaaBoths
import Derived.Deep.RegionHeld3
namespace Go.Proofs.Ytdikijbkfhimoaa
open Go.RowKit Go.Maps

set_option maxHeartbeats 64000000 in
set_option maxRecDepth 100000 in
theorem plays_walk (most : Int) (_wm : (Lit.int .i64 most).wf = true) (delay : Int) (_wd : (Lit.int .i64 delay).wf = true) {w : World} {a : Option Addr} {cap : Nat} {l : List OpD} (h : OpsAt w a l) :
    Calls Try.prog 3 #[.int .i64 most, .int .i64 delay, .slice a l.length cap] w fun e w' => e = .returned (.bool true) ∧ Below w.heap.size w w' := by
  have HF := hid (few_any (cap := cap) h)
  have HH := hid h
  have hf := h.cells.few
  unfold maxLen at hf
  clear h _wm _wd
  cases hfw : fewB l with
  | false =>
    rw [hfw] at HF
    clear hfw
    go_enter Try.func3, Try.ntmps3
    go_wp2_with (go_at_call 9; refine HF.out.mono ?_; rintro e w1 ⟨rfl, hk1⟩)
    refine (alive_any _).mono ?_
    rintro e w9 ⟨rfl, k9⟩
    go_wp2_with fail
    go_ret
    exact ⟨rfl, (hk1.step k9 (by simp)).toBelow (by simp)⟩
  | true =>
    have HOK := hid (fewB_ok hfw)
    rw [hfw] at HF
    clear hfw
    by_cases hc : most < 1 ∨ 8 < most ∨ delay < 1 ∨ 3600 < delay
    · have HN1 := hid (fun W => new_bad W hc)
      have HN2 := hid (fun W => rnew_bad W hc)
      clear hc
      go_enter Try.func3, Try.ntmps3
      go_wp2_with (first
        | (go_at_call 9; refine HF.out.mono ?_; rintro e w1 ⟨rfl, hk1⟩)
        | (go_at_call 11; refine (HN1.out _).mono ?_; rintro e w2 ⟨rfl, hk2⟩)
        | (go_at_call 12; refine (HN2.out _).mono ?_; rintro e w3 ⟨rfl, rfl⟩))
      refine (alive_any _).mono ?_
      rintro e w9 ⟨rfl, k9⟩
      go_wp2_with fail
      go_ret
      exact ⟨rfl, ((hk1.step hk2 (by simp)).step k9 (by simp)).toBelow (by simp)⟩
    · obtain ⟨m, rfl⟩ : ∃ m : Nat, most = (m : Int) := ⟨most.toNat, by omega⟩
      obtain ⟨d, rfl⟩ : ∃ d : Nat, delay = (d : Int) := ⟨delay.toNat, by omega⟩
      have HB := hid (show (1 ≤ m ∧ m ≤ 8) ∧ 1 ≤ d ∧ d ≤ 3600 by omega)
      clear hc
      go_enter Try.func3, Try.ntmps3
      go_wp2_with (first
        | (go_at_call 9; refine HF.out.mono ?_; rintro e w1 ⟨rfl, hk1⟩)
        | (go_at_call 11; refine (new_st hk1 HB.out.1.1 HB.out.1.2 HB.out.2.1 HB.out.2.2).mono ?_; rintro e w2 ⟨lb, mb, rfl, h2⟩)
        | (go_at_call 12; refine (new_both h2 rfl HB.out.1.1 HB.out.1.2 HB.out.2.1 HB.out.2.2).mono ?_; rintro e w3 ⟨qb, rfl, h3⟩; have H3 := hid h3; clear h3 h2 hk1))
      go_loopw [11] (fun i wr => ∃ k : Nat, k ≤ l.length ∧ i = .int .i64 (k : Int) ∧ ∃ U, Both w wr lb mb qb m d U U []) (fun i _ => l.length - (intOf i).toNat)
      case atStart => exact ⟨0, Nat.zero_le _, rfl, _, H3.out⟩
      case round =>
        obtain ⟨k, hk, rfl, U, hS⟩ := hrel
        have HS := hid hS
        clear hS
        by_cases hlt : k < l.length
        · obtain ⟨b, off, rfl, hb, hc, hL⟩ := (HH.out.keptN HS.out.kept).get hlt
          have hb1 : (0 : Int) ≤ k := by omega
          have hb2 : (k : Int) < l.length := by omega
          have hsm := small_of (HOK.out.2 _ (List.getElem_mem hlt))
          have HXW0 := fun (W : World) (kW : Kept [] w W) => ((HH.out.keptN kW).lists _ (List.getElem_mem hlt)).at_
          generalize l[k] = x at *
          obtain ⟨c0, c1, c2, c3, c4⟩ := hc
          obtain ⟨xk, xi, xc, xl, xn, xa, xq⟩ := x
          have HSI := hid (bsize hsm.id)
          have HSC := hid (bsize hsm.cl)
          have HZ := hid (show ∀ c ∈ xl, c.length ≤ 1000000 from fun c hc => by have := hsm.list c hc; omega)
          have HCA := hid hL.cap
          dsimp only at *
          obtain ⟨OB, HOB⟩ : ∃ OB, Hid (OB = Obj.cells #[.int .i64 xk, .string ⟨xi.toArray⟩, .string ⟨xc.toArray⟩, .slice xa xl.length xq, .int .i64 xn] 34 (0, 0)) := ⟨_, hid rfl⟩
          have HBX := hid (HS.out.box OB)
          have HXL := hid (hL.at_.keptN ((Kept.refl [] wr).alloc OB))
          have HXW := hid HXW0
          rw [HOB.out] at HBX HXL
          clear hsm hL HXW0
          by_cases k0 : xk = 0
          · subst k0
            obtain ⟨g, HG⟩ : ∃ g, Hid (g = wr.heap.size) := ⟨_, hid rfl⟩
            obtain ⟨w4, HW4⟩ : ∃ v, Hid (v = wr.alloc (.cells #[.int .i64 0, .string ⟨xi.toArray⟩, .string ⟨xc.toArray⟩, .slice xa xl.length xq, .int .i64 xn] 34 (0, 0))) := ⟨_, hid rfl⟩
            rw [← HW4.out, ← HG.out] at HBX
            rw [← HW4.out] at HXL
            have HP := hid (fun (W : World) (UA UB : Log) (q : List (Nat × Obj)) (hW : Both w W lb mb qb m d UA UB (q ++ [(g, .cells #[.int .i64 0, .string ⟨xi.toArray⟩, .string ⟨xc.toArray⟩, .slice xa xl.length xq, .int .i64 xn] 34 (0, 0))])) => show W.cell? ⟨g, 0, none⟩ = some (.int .i64 0) ∧ W.cell? ⟨g, 1, none⟩ = some (.string ⟨xi.toArray⟩) ∧ W.cell? ⟨g, 2, none⟩ = some (.string ⟨xc.toArray⟩) ∧ W.cell? ⟨g, 3, none⟩ = some (.slice xa xl.length xq) ∧ W.cell? ⟨g, 4, none⟩ = some (.int .i64 xn) from by
              have hp := hW.pin (q := (g, .cells #[.int .i64 0, .string ⟨xi.toArray⟩, .string ⟨xc.toArray⟩, .slice xa xl.length xq, .int .i64 xn] 34 (0, 0))) (by simp)
              refine ⟨?_, ?_, ?_, ?_, ?_⟩ <;> (rw [cell_at hp]; rfl))
            have HA := hid (fun W (kW : Kept [] w4 W) => begin_both (HBX.out.keptN kW) ⟨xi.toArray⟩ HSI.out (HXL.out.keptN kW) HZ.out HCA.out xn)
            have HR := hid (fun W (hW : Both w W lb mb qb m d (beginU U (⟨xi.toArray⟩ : ByteArray).data.toList xl xn) U [(g, .cells #[.int .i64 0, .string ⟨xi.toArray⟩, .string ⟨xc.toArray⟩, .slice xa xl.length xq, .int .i64 xn] 34 (0, 0))]) => rbegin_both hW ⟨xi.toArray⟩ HSI.out (cc := xq) ((HXW.out _ hW.kept)) HZ.out xn rfl)
            obtain ⟨E, HE⟩ : ∃ E, Hid (beginE U (⟨xi.toArray⟩ : ByteArray).data.toList xl = E) := ⟨_, hid rfl⟩
            obtain ⟨V, HV⟩ : ∃ V, Hid (beginU U (⟨xi.toArray⟩ : ByteArray).data.toList xl xn = V) := ⟨_, hid rfl⟩
            rw [HE.out, HV.out] at HA
            rw [HE.out, HV.out] at HR
            have q1 : (E == E) = true := beq_self_eq_true E
            have q2 : decide (E = E) = true := decide_eq_true rfl
            obtain ⟨d0, d1, d2, d3, d4⟩ := HP.out _ _ _ [] HBX.out
            rw [HW4.out, HG.out] at d0 d1 d2 d3 d4
            go_wp2_with fail
            rw [← HW4.out, ← HG.out]
            clear d0 d1 d2 d3 d4 c0 c1 c2 c3 c4
            go_region_held3 (fun W => W.cell? ⟨g, 0, none⟩ = some (.int .i64 0) ∧ W.cell? ⟨g, 1, none⟩ = some (.string ⟨xi.toArray⟩) ∧ W.cell? ⟨g, 2, none⟩ = some (.string ⟨xc.toArray⟩) ∧ W.cell? ⟨g, 3, none⟩ = some (.slice xa xl.length xq) ∧ W.cell? ⟨g, 4, none⟩ = some (.int .i64 xn))
              (first
                | exact HP.out _ _ _ [] h6
                | exact HP.out _ _ _ [] h5
                | exact HP.out _ _ _ [] (HBX.out.keptN (Kept.refl [] _).drew))
              (first
                | (go_at_call 14; refine (HR.out _ h5).mono ?_; rintro e w6 ⟨rfl, h6⟩)
                | (go_at_call 13; refine (HA.out _ (Kept.refl [] _).drew).mono ?_; rintro e w5 ⟨rfl, h5⟩))
            have H6 := hid h6
            clear h5 h6
            go_wp2_with (first
              | (go_at_call 27; refine (bound_both H6.out).mono ?_; rintro e w7 ⟨rfl, k7⟩)
              | (go_at_call 28; refine (rbound_both (H6.out.keptN k7)).mono ?_; rintro e w8 ⟨rfl, k8⟩))
            go_roundw
            case rel => exact ⟨k + 1, by omega, by go_num, _, ((H6.out.keptN k7).keptN k8).nil⟩
            case measure => simp [intOf]; omega
          by_cases k1 : xk = 1
          · subst k1
            obtain ⟨g, HG⟩ : ∃ g, Hid (g = wr.heap.size) := ⟨_, hid rfl⟩
            obtain ⟨w4, HW4⟩ : ∃ v, Hid (v = wr.alloc (.cells #[.int .i64 1, .string ⟨xi.toArray⟩, .string ⟨xc.toArray⟩, .slice xa xl.length xq, .int .i64 xn] 34 (0, 0))) := ⟨_, hid rfl⟩
            rw [← HW4.out, ← HG.out] at HBX
            rw [← HW4.out] at HXL
            have HP := hid (fun (W : World) (UA UB : Log) (q : List (Nat × Obj)) (hW : Both w W lb mb qb m d UA UB (q ++ [(g, .cells #[.int .i64 1, .string ⟨xi.toArray⟩, .string ⟨xc.toArray⟩, .slice xa xl.length xq, .int .i64 xn] 34 (0, 0))])) => show W.cell? ⟨g, 0, none⟩ = some (.int .i64 1) ∧ W.cell? ⟨g, 1, none⟩ = some (.string ⟨xi.toArray⟩) ∧ W.cell? ⟨g, 2, none⟩ = some (.string ⟨xc.toArray⟩) ∧ W.cell? ⟨g, 3, none⟩ = some (.slice xa xl.length xq) ∧ W.cell? ⟨g, 4, none⟩ = some (.int .i64 xn) from by
              have hp := hW.pin (q := (g, .cells #[.int .i64 1, .string ⟨xi.toArray⟩, .string ⟨xc.toArray⟩, .slice xa xl.length xq, .int .i64 xn] 34 (0, 0))) (by simp)
              refine ⟨?_, ?_, ?_, ?_, ?_⟩ <;> (rw [cell_at hp]; rfl))
            have HA := hid (fun W (kW : Kept [] w4 W) => due_both (HBX.out.keptN kW) xn)
            obtain ⟨d0, d1, d2, d3, d4⟩ := HP.out _ _ _ [] HBX.out
            rw [HW4.out, HG.out] at d0 d1 d2 d3 d4
            go_wp2_with fail
            rw [← HW4.out, ← HG.out]
            clear d0 d1 d2 d3 d4 c0 c1 c2 c3 c4
            go_region_held3 (fun W => W.cell? ⟨g, 0, none⟩ = some (.int .i64 1) ∧ W.cell? ⟨g, 1, none⟩ = some (.string ⟨xi.toArray⟩) ∧ W.cell? ⟨g, 2, none⟩ = some (.string ⟨xc.toArray⟩) ∧ W.cell? ⟨g, 3, none⟩ = some (.slice xa xl.length xq) ∧ W.cell? ⟨g, 4, none⟩ = some (.int .i64 xn))
              (first
                | exact HP.out _ _ _ _ (h6.keptN k8)
                | exact HP.out _ _ _ _ h6
                | exact HP.out _ _ _ _ h5
                | exact HP.out _ _ _ [] (HBX.out.keptN (Kept.refl [] _).drew))
              (first
                | (go_at_call 15; refine (same_any p6 p6').mono ?_; rintro e w8 ⟨rfl, k8'⟩; have k8 := k8'.kept; clear k8')
                | (go_at_call 17; refine (rdue_both h5 xn hm5 rfl p5 n5 (fun q hq => List.mem_append_left _ hq)).mono ?_; rintro e w6 ⟨pa6, pc6, rfl, p6', p6, h6⟩)
                | (go_at_call 16; refine (HA.out _ (Kept.refl [] _).drew).mono ?_; rintro e w5 ⟨m5, pa5, pc5, hm5, rfl, p5, n5, h5⟩))
            have H6 := hid (h6.keptN k8)
            clear h5 h6 p5 n5 p6 p6' hm5 k8
            go_wp2_with (first
              | (go_at_call 27; refine (bound_both H6.out).mono ?_; rintro e w7 ⟨rfl, k7⟩)
              | (go_at_call 28; refine (rbound_both (H6.out.keptN k7)).mono ?_; rintro e w8 ⟨rfl, k8⟩))
            go_roundw
            case rel => exact ⟨k + 1, by omega, by go_num, _, ((H6.out.keptN k7).keptN k8).nil⟩
            case measure => simp [intOf]; omega
          by_cases k2 : xk = 2
          · subst k2
            obtain ⟨g, HG⟩ : ∃ g, Hid (g = wr.heap.size) := ⟨_, hid rfl⟩
            obtain ⟨w4, HW4⟩ : ∃ v, Hid (v = wr.alloc (.cells #[.int .i64 2, .string ⟨xi.toArray⟩, .string ⟨xc.toArray⟩, .slice xa xl.length xq, .int .i64 xn] 34 (0, 0))) := ⟨_, hid rfl⟩
            rw [← HW4.out, ← HG.out] at HBX
            rw [← HW4.out] at HXL
            have HP := hid (fun (W : World) (UA UB : Log) (q : List (Nat × Obj)) (hW : Both w W lb mb qb m d UA UB (q ++ [(g, .cells #[.int .i64 2, .string ⟨xi.toArray⟩, .string ⟨xc.toArray⟩, .slice xa xl.length xq, .int .i64 xn] 34 (0, 0))])) => show W.cell? ⟨g, 0, none⟩ = some (.int .i64 2) ∧ W.cell? ⟨g, 1, none⟩ = some (.string ⟨xi.toArray⟩) ∧ W.cell? ⟨g, 2, none⟩ = some (.string ⟨xc.toArray⟩) ∧ W.cell? ⟨g, 3, none⟩ = some (.slice xa xl.length xq) ∧ W.cell? ⟨g, 4, none⟩ = some (.int .i64 xn) from by
              have hp := hW.pin (q := (g, .cells #[.int .i64 2, .string ⟨xi.toArray⟩, .string ⟨xc.toArray⟩, .slice xa xl.length xq, .int .i64 xn] 34 (0, 0))) (by simp)
              refine ⟨?_, ?_, ?_, ?_, ?_⟩ <;> (rw [cell_at hp]; rfl))
            have HA := hid (fun W (kW : Kept [] w4 W) => done_both (HBX.out.keptN kW) ⟨xi.toArray⟩ ⟨xc.toArray⟩ HSI.out HSC.out xn)
            have HR := hid (fun W (hW : Both w W lb mb qb m d (endU doneN U (⟨xi.toArray⟩ : ByteArray).data.toList (⟨xc.toArray⟩ : ByteArray).data.toList) U [(g, .cells #[.int .i64 2, .string ⟨xi.toArray⟩, .string ⟨xc.toArray⟩, .slice xa xl.length xq, .int .i64 xn] 34 (0, 0))]) => rdone_both hW ⟨xi.toArray⟩ ⟨xc.toArray⟩ xn rfl)
            obtain ⟨E, HE⟩ : ∃ E, Hid (endE U (⟨xi.toArray⟩ : ByteArray).data.toList (⟨xc.toArray⟩ : ByteArray).data.toList = E) := ⟨_, hid rfl⟩
            obtain ⟨V, HV⟩ : ∃ V, Hid (endU doneN U (⟨xi.toArray⟩ : ByteArray).data.toList (⟨xc.toArray⟩ : ByteArray).data.toList = V) := ⟨_, hid rfl⟩
            rw [HE.out, HV.out] at HA
            rw [HE.out, HV.out] at HR
            have q1 : (E == E) = true := beq_self_eq_true E
            have q2 : decide (E = E) = true := decide_eq_true rfl
            obtain ⟨d0, d1, d2, d3, d4⟩ := HP.out _ _ _ [] HBX.out
            rw [HW4.out, HG.out] at d0 d1 d2 d3 d4
            go_wp2_with fail
            rw [← HW4.out, ← HG.out]
            clear d0 d1 d2 d3 d4 c0 c1 c2 c3 c4
            go_region_held3 (fun W => W.cell? ⟨g, 0, none⟩ = some (.int .i64 2) ∧ W.cell? ⟨g, 1, none⟩ = some (.string ⟨xi.toArray⟩) ∧ W.cell? ⟨g, 2, none⟩ = some (.string ⟨xc.toArray⟩) ∧ W.cell? ⟨g, 3, none⟩ = some (.slice xa xl.length xq) ∧ W.cell? ⟨g, 4, none⟩ = some (.int .i64 xn))
              (first
                | exact HP.out _ _ _ [] h6
                | exact HP.out _ _ _ [] h5
                | exact HP.out _ _ _ [] (HBX.out.keptN (Kept.refl [] _).drew))
              (first
                | (go_at_call 19; refine (HR.out _ h5).mono ?_; rintro e w6 ⟨rfl, h6⟩)
                | (go_at_call 18; refine (HA.out _ (Kept.refl [] _).drew).mono ?_; rintro e w5 ⟨rfl, h5⟩))
            have H6 := hid h6
            clear h5 h6
            go_wp2_with (first
              | (go_at_call 27; refine (bound_both H6.out).mono ?_; rintro e w7 ⟨rfl, k7⟩)
              | (go_at_call 28; refine (rbound_both (H6.out.keptN k7)).mono ?_; rintro e w8 ⟨rfl, k8⟩))
            go_roundw
            case rel => exact ⟨k + 1, by omega, by go_num, _, ((H6.out.keptN k7).keptN k8).nil⟩
            case measure => simp [intOf]; omega
          by_cases k3 : xk = 3
          · subst k3
            obtain ⟨g, HG⟩ : ∃ g, Hid (g = wr.heap.size) := ⟨_, hid rfl⟩
            obtain ⟨w4, HW4⟩ : ∃ v, Hid (v = wr.alloc (.cells #[.int .i64 3, .string ⟨xi.toArray⟩, .string ⟨xc.toArray⟩, .slice xa xl.length xq, .int .i64 xn] 34 (0, 0))) := ⟨_, hid rfl⟩
            rw [← HW4.out, ← HG.out] at HBX
            rw [← HW4.out] at HXL
            have HP := hid (fun (W : World) (UA UB : Log) (q : List (Nat × Obj)) (hW : Both w W lb mb qb m d UA UB (q ++ [(g, .cells #[.int .i64 3, .string ⟨xi.toArray⟩, .string ⟨xc.toArray⟩, .slice xa xl.length xq, .int .i64 xn] 34 (0, 0))])) => show W.cell? ⟨g, 0, none⟩ = some (.int .i64 3) ∧ W.cell? ⟨g, 1, none⟩ = some (.string ⟨xi.toArray⟩) ∧ W.cell? ⟨g, 2, none⟩ = some (.string ⟨xc.toArray⟩) ∧ W.cell? ⟨g, 3, none⟩ = some (.slice xa xl.length xq) ∧ W.cell? ⟨g, 4, none⟩ = some (.int .i64 xn) from by
              have hp := hW.pin (q := (g, .cells #[.int .i64 3, .string ⟨xi.toArray⟩, .string ⟨xc.toArray⟩, .slice xa xl.length xq, .int .i64 xn] 34 (0, 0))) (by simp)
              refine ⟨?_, ?_, ?_, ?_, ?_⟩ <;> (rw [cell_at hp]; rfl))
            have HA := hid (fun W (kW : Kept [] w4 W) => fail_both (HBX.out.keptN kW) ⟨xi.toArray⟩ ⟨xc.toArray⟩ HSI.out HSC.out xn)
            have HR := hid (fun W (hW : Both w W lb mb qb m d (endU (failN m) U (⟨xi.toArray⟩ : ByteArray).data.toList (⟨xc.toArray⟩ : ByteArray).data.toList) U [(g, .cells #[.int .i64 3, .string ⟨xi.toArray⟩, .string ⟨xc.toArray⟩, .slice xa xl.length xq, .int .i64 xn] 34 (0, 0))]) => rfail_both hW ⟨xi.toArray⟩ ⟨xc.toArray⟩ xn rfl)
            obtain ⟨E, HE⟩ : ∃ E, Hid (endE U (⟨xi.toArray⟩ : ByteArray).data.toList (⟨xc.toArray⟩ : ByteArray).data.toList = E) := ⟨_, hid rfl⟩
            obtain ⟨V, HV⟩ : ∃ V, Hid (endU (failN m) U (⟨xi.toArray⟩ : ByteArray).data.toList (⟨xc.toArray⟩ : ByteArray).data.toList = V) := ⟨_, hid rfl⟩
            rw [HE.out, HV.out] at HA
            rw [HE.out, HV.out] at HR
            have q1 : (E == E) = true := beq_self_eq_true E
            have q2 : decide (E = E) = true := decide_eq_true rfl
            obtain ⟨d0, d1, d2, d3, d4⟩ := HP.out _ _ _ [] HBX.out
            rw [HW4.out, HG.out] at d0 d1 d2 d3 d4
            go_wp2_with fail
            rw [← HW4.out, ← HG.out]
            clear d0 d1 d2 d3 d4 c0 c1 c2 c3 c4
            go_region_held3 (fun W => W.cell? ⟨g, 0, none⟩ = some (.int .i64 3) ∧ W.cell? ⟨g, 1, none⟩ = some (.string ⟨xi.toArray⟩) ∧ W.cell? ⟨g, 2, none⟩ = some (.string ⟨xc.toArray⟩) ∧ W.cell? ⟨g, 3, none⟩ = some (.slice xa xl.length xq) ∧ W.cell? ⟨g, 4, none⟩ = some (.int .i64 xn))
              (first
                | exact HP.out _ _ _ [] h6
                | exact HP.out _ _ _ [] h5
                | exact HP.out _ _ _ [] (HBX.out.keptN (Kept.refl [] _).drew))
              (first
                | (go_at_call 21; refine (HR.out _ h5).mono ?_; rintro e w6 ⟨rfl, h6⟩)
                | (go_at_call 20; refine (HA.out _ (Kept.refl [] _).drew).mono ?_; rintro e w5 ⟨rfl, h5⟩))
            have H6 := hid h6
            clear h5 h6
            go_wp2_with (first
              | (go_at_call 27; refine (bound_both H6.out).mono ?_; rintro e w7 ⟨rfl, k7⟩)
              | (go_at_call 28; refine (rbound_both (H6.out.keptN k7)).mono ?_; rintro e w8 ⟨rfl, k8⟩))
            go_roundw
            case rel => exact ⟨k + 1, by omega, by go_num, _, ((H6.out.keptN k7).keptN k8).nil⟩
            case measure => simp [intOf]; omega
          have i0 : decide (xk = 0) = false := decide_eq_false k0
          have i1 : decide (xk = 1) = false := decide_eq_false k1
          have i2 : decide (xk = 2) = false := decide_eq_false k2
          have i3 : decide (xk = 3) = false := decide_eq_false k3
          have j0 : (xk == 0) = false := beq_eq_false_iff_ne.2 k0
          have j1 : (xk == 1) = false := beq_eq_false_iff_ne.2 k1
          have j2 : (xk == 2) = false := beq_eq_false_iff_ne.2 k2
          have j3 : (xk == 3) = false := beq_eq_false_iff_ne.2 k3
          clear k0 k1 k2 k3
          obtain ⟨g, HG⟩ : ∃ g, Hid (g = wr.heap.size) := ⟨_, hid rfl⟩
          obtain ⟨w4, HW4⟩ : ∃ v, Hid (v = wr.alloc (.cells #[.int .i64 xk, .string ⟨xi.toArray⟩, .string ⟨xc.toArray⟩, .slice xa xl.length xq, .int .i64 xn] 34 (0, 0))) := ⟨_, hid rfl⟩
          rw [← HW4.out, ← HG.out] at HBX
          rw [← HW4.out] at HXL
          have HP := hid (fun (W : World) (UA UB : Log) (q : List (Nat × Obj)) (hW : Both w W lb mb qb m d UA UB (q ++ [(g, .cells #[.int .i64 xk, .string ⟨xi.toArray⟩, .string ⟨xc.toArray⟩, .slice xa xl.length xq, .int .i64 xn] 34 (0, 0))])) => show W.cell? ⟨g, 0, none⟩ = some (.int .i64 xk) ∧ W.cell? ⟨g, 1, none⟩ = some (.string ⟨xi.toArray⟩) ∧ W.cell? ⟨g, 2, none⟩ = some (.string ⟨xc.toArray⟩) ∧ W.cell? ⟨g, 3, none⟩ = some (.slice xa xl.length xq) ∧ W.cell? ⟨g, 4, none⟩ = some (.int .i64 xn) from by
            have hp := hW.pin (q := (g, .cells #[.int .i64 xk, .string ⟨xi.toArray⟩, .string ⟨xc.toArray⟩, .slice xa xl.length xq, .int .i64 xn] 34 (0, 0))) (by simp)
            refine ⟨?_, ?_, ?_, ?_, ?_⟩ <;> (rw [cell_at hp]; rfl))
          obtain ⟨S, HSS⟩ : ∃ S, Hid (statS U (⟨xi.toArray⟩ : ByteArray).data.toList = S) := ⟨_, hid rfl⟩
          obtain ⟨G, HGG⟩ : ∃ G, Hid (givenL U (⟨xi.toArray⟩ : ByteArray).data.toList = G) := ⟨_, hid rfl⟩
          have HC1 := hid (status_both HBX.out ⟨xi.toArray⟩ HSI.out HSS.out)
          have HC2 := hid (fun W (kW : Kept [] w4 W) => rstatus_both (HBX.out.keptN kW) ⟨xi.toArray⟩ HSS.out)
          have HC3 := hid (fun W (kW : Kept [] w4 W) => given_both (HBX.out.keptN kW) ⟨xi.toArray⟩ HSI.out HGG.out)
          have HC4 := hid (fun W (kW : Kept [] w4 W) => rgiven_both (HBX.out.keptN kW) ⟨xi.toArray⟩ HGG.out)
          have HKP := hid (fun W (kW : Kept [] w4 W) => HP.out _ _ _ [] (HBX.out.keptN kW))
          obtain ⟨S1, S2, S3⟩ := S
          dsimp only at HC1 HC2
          have q1 : decide ((S1 : Int) = S1) = true := decide_eq_true rfl
          obtain ⟨d0, d1, d2, d3, d4⟩ := HKP.out _ (Kept.refl [] _)
          rw [HW4.out, HG.out] at d0 d1 d2 d3 d4
          go_wp2_with fail
          rw [← HW4.out, ← HG.out]
          clear d0 d1 d2 d3 d4 c0 c1 c2 c3 c4
          refine HC1.out.mono ?_
          rintro e w5 ⟨rfl, k5⟩
          obtain ⟨d0, d1, d2, d3, d4⟩ := HKP.out _ k5
          have K5 := hid k5
          clear k5
          go_wp2_with fail
          refine (HC2.out _ K5.out).mono ?_
          rintro e w6 ⟨rfl, rfl⟩
          go_wp2_with fail
          clear d0 d1 d2 d3 d4
          go_region_held3 (fun W => W.cell? ⟨g, 0, none⟩ = some (.int .i64 xk) ∧ W.cell? ⟨g, 1, none⟩ = some (.string ⟨xi.toArray⟩) ∧ W.cell? ⟨g, 2, none⟩ = some (.string ⟨xc.toArray⟩) ∧ W.cell? ⟨g, 3, none⟩ = some (.slice xa xl.length xq) ∧ W.cell? ⟨g, 4, none⟩ = some (.int .i64 xn))
            (first
              | exact HKP.out _ k10
              | exact HKP.out _ k9
              | exact HKP.out _ k8
              | exact HKP.out _ K5.out.drew)
            (first
              | (go_at_call 24; refine (lists_any (p8.keptN t9) p9).mono ?_; rintro e w10 ⟨rfl, t10⟩; have k10 := k9.step t10.kept (by simp))
              | (go_at_call 26; refine (HC4.out _ k8).mono ?_; rintro e w9 ⟨pa9, pc9, rfl, p9, t9⟩; have k9 := k8.step t9 (by simp))
              | (go_at_call 25; refine (HC3.out _ K5.out.drew).mono ?_; rintro e w8 ⟨pa8, pc8, rfl, p8, t8⟩; have k8 := K5.out.drew.step t8 (by simp)))
          have H6 := hid (HBX.out.keptN k10)
          clear p8 p9 t8 t9 t10 k8 k9 k10
          go_wp2_with (first
            | (go_at_call 27; refine (bound_both H6.out).mono ?_; rintro e w7 ⟨rfl, k7⟩)
            | (go_at_call 28; refine (rbound_both (H6.out.keptN k7)).mono ?_; rintro e w8 ⟨rfl, k8⟩))
          go_roundw
          case rel => exact ⟨k + 1, by omega, by go_num, _, ((H6.out.keptN k7).keptN k8).nil⟩
          case measure => simp [intOf]; omega
        · go_wp2_with fail
          refine (alive_any _).mono ?_
          rintro e w9 ⟨rfl, k9⟩
          go_wp2_with fail
          go_ret
          exact ⟨rfl, (HS.out.kept.step k9 (by simp)).toBelow (by simp)⟩
end Go.Proofs.Ytdikijbkfhimoaa
