/- Due of the program. -/
import Derived.Test.YtdikijbkfhimoaaDueP
namespace Go.Proofs.Ytdikijbkfhimoaa
open Go.RowKit Go.Maps

set_option maxHeartbeats 8000000 in
set_option maxRecDepth 100000 in
theorem due_any {w : World} {lb mb most delay : Nat} {X : SBs} (h : LogAt w lb mb most delay X) (t : Int) :
    Calls Try.prog 16 #[.pointer (some ⟨lb, 0, none⟩), .int .i64 t] w fun e w' => ∃ m a cap, e = .returned (.slice a m.length cap) ∧ OwnPr (bare w) w' a cap m ∧ (∀ i ∈ fp a, w.heap.size ≤ i) ∧ Due delay (lim t) (absL X) m ∧ Left w w' lb mb most delay X (dueU delay (lim t) (absL X)) := by
  have c2 := h.c2
  have hr2 : ∀ o1 o2, MapS ((w.alloc o1).alloc o2) mb (X.map sent) := fun o1 o2 => h.map.kept (((Kept.refl [] w).alloc o1).alloc o2) (by simp)
  have hc2 : ∀ o, (w.alloc o).cell? ⟨lb, 2, none⟩ = some (.map (some mb)) := fun o => (h.keptN ((Kept.refl [] w).alloc o)).c2
  have hc3 : ∀ o1 o2, ((w.alloc o1).alloc o2).cell? ⟨lb, 2, none⟩ = some (.map (some mb)) := fun o1 o2 => (h.keptN (((Kept.refl [] w).alloc o1).alloc o2)).c2
  have HH := hid h
  have HR2 := hid hr2
  generalize hnow : lim t = now at *
  have HNOW := hid hnow
  have HADD := hid (fun W => add0_any t W)
  rw [hnow] at HADD
  clear hnow h hr2
  go_enter Try.func16, Try.ntmps16
  go_wp2_with (first
    | (go_at_call 34; refine (ready_any (hc2 _)).mono ?_; rintro e w' ⟨rfl, rfl⟩)
    | (go_at_call 32; refine (HADD.out _).mono ?_; rintro e w' ⟨rfl, rfl⟩)
    | (at_range; refine wp_range (HR2.out _ _) rfl _ 55 rfl 69 lawS Try.underlying55 rfl ?_; intro w0 hrg0 hk0 hs0))
  go_frame
  have e2 : ((w.alloc (.cells #[.pointer (some ⟨lb, 0, none⟩)] 25)).alloc (.cells #[.int .i64 now] 3)).heap.size = w.heap.size + 2 := by simp
  rw [e2] at hrg0 hs0
  try rw [e2]
  have hkw0 : Kept [] w w0 := (((Kept.refl [] w).alloc _).alloc _).step hk0 (by simp)
  have hlb0 := hkw0.at HH.out.blk (by simp)
  have hL0 := hk0.at ((((Kept.refl [] (w.alloc (.cells #[.pointer (some ⟨lb, 0, none⟩)] 25))).alloc (.cells #[.int .i64 now] 3))).at (heap_alloc_new w (.cells #[.pointer (some ⟨lb, 0, none⟩)] 25)) (by simp)) (by simp)
  have hA0 := hk0.at (heap_alloc_new (w.alloc (.cells #[.pointer (some ⟨lb, 0, none⟩)] 25)) (.cells #[.int .i64 now] 3)) (by simp)
  rw [show (w.alloc (.cells #[.pointer (some ⟨lb, 0, none⟩)] 25)).heap.size = w.heap.size + 1 by simp] at hA0
  have hD0 : DSt w w0 mb delay now X none X (w.heap.size + 2) X.length [(lb, #[.int .i64 (most : Int), .int .i64 (delay : Int), .map (some mb)], 57), (w.heap.size, #[.pointer (some ⟨lb, 0, none⟩)], 25), (w.heap.size + 1, #[.int .i64 now], 3)] [] none 0 :=
    ⟨by rw [List.length_map] at hrg0; exact hrg0, fun _ hp => hp, fun p hp _ => by
      have hs : stN delay now X p = p.2.2.2 := by unfold stN; rw [alook_of_mem HH.out.uniq (show (p.1, p.2) ∈ X from hp)]; rfl
      rw [hs]; exact (HH.out.each p hp).kept hkw0 (by simp), ⟨World.ownsRow_nil _ _ _ _, bare_kept hkw0, by simp [fp]⟩, by simp [fp], fun q hq => by
      simp only [List.mem_cons, List.not_mem_nil, or_false] at hq
      rcases hq with rfl | rfl | rfl
      · exact ⟨hlb0, by show (57 : Nat) ≠ 48; decide⟩
      · exact ⟨hL0, by show (25 : Nat) ≠ 48; decide⟩
      · exact ⟨hA0, by show (3 : Nat) ≠ 48; decide⟩, hkw0.mono (by simp), by omega⟩
  have HD0 := hid hD0
  have HTOT := hid (show (pairsX delay now X).length ≤ 65536 by
    have h1 := pairsX_len (delay := delay) (now := now) (X := X) (fun p hp => (HH.out.fine hp).len)
    have h2 := HH.out.len
    omega)
  have HK0 := hid hkw0
  clear hD0 hA0 hL0 hlb0 hkw0 hk0 hrg0 hc2 hc3 c2 HR2 HADD e2
  go_loopw [5] (fun dv wr => ∃ (T : SBs) (cnt : Nat) (D : List Pr) (a : Option Addr) (cap : Nat), dv = .slice a D.length cap ∧ DSt w wr mb delay now X none T (w.heap.size + 2) cnt [(lb, #[.int .i64 (most : Int), .int .i64 (delay : Int), .map (some mb)], 57), (w.heap.size, #[.pointer (some ⟨lb, 0, none⟩)], 25), (w.heap.size + 1, #[.int .i64 now], 3)] D a cap ∧ Hid ((D ++ pairsX delay now T).Perm (pairsX delay now X))) (fun _ wr => wr.rangeLeft mb (w.heap.size + 2))
  case atStart => exact ⟨X, _, [], none, 0, rfl, HD0.out, hid (List.Perm.refl _)⟩
  case round =>
    obtain ⟨T, cnt, D, a, cap, rfl, hD, HP⟩ := hrel
    have HD := hid hD
    clear hD HD0 hs0
    go_wp2_with (first
      | (at_next; refine wp_snext HD.out.rng rfl _ rfl rfl ?_ ?_))
    · intro hT
      subst hT
      have hDl : D.length ≤ 100000 := by
        have h1 := HP.out.length_eq
        have h2 := HTOT.out
        simp only [List.length_append] at h1
        omega
      have HSF := hid (sortP_any (cap := cap) HD.out.row hDl)
      go_wp2_with (go_at_call 42; refine HSF.out.mono ?_; rintro e w2 ⟨rfl, m, o2, hl2, hs2, hp2, k2⟩; have HL := hid hl2; have HO := hid o2; have HS := hid hs2; have HPM := hid hp2; have HK := hid k2; clear o2 hl2 hs2 hp2 k2)
      go_ret
      refine ⟨m, a, cap, by rw [HL.out]; rfl, HO.out, HD.out.new, due_of HH.out.uniq (fun p hp => (HH.out.fine hp).uniq) (by simpa [pairsX] using HP.out) HPM.out HS.out, HH.out.due HD.out HK.out⟩
    · intro k b at_ N w1 cnt1 hkl hm hrg1 hlt1 hk1 hsz1 hen
      have hmX := HD.out.sub _ hm
      have hTu : AUniq T := suniq_of (rrange_tuniq HD.out.rng)
      have hMb0 := HD.out.each _ hmX (by simp)
      have hst : stN delay now T (k, b, at_, N) = N := by unfold stN; rw [alook_of_mem hTu hm]; rfl
      rw [hst] at hMb0
      have hMb := hMb0.kept hk1 (by simpa using HD.out.rng.nomap hMb0)
      have HD1 := hid (HD.out.outer hk1 hrg1)
      have HMB := hid (fun o => (hMb.kept ((Kept.refl [] w1).alloc o) (by simp) : MapS (w1.alloc o) b (N.map nent)))
      have HFX := hid (HH.out.fine hmX)
      have HMX := hid hmX
      have HTP := hid (pairsX_perm (delay := delay) (now := now) (perm_del hTu hm))
      have HLK := hid (show alook (adel T k) k = none by rw [alook_del, if_pos rfl])
      have HMS := hid (show cnt1 < wr.rangeLeft mb (w.heap.size + 2) by rw [HD.out.rng.left_eq]; exact hlt1)
      have hws : w.heap.size + 2 < w1.heap.size := by
        have h1 := HD.out.rng.lt
        omega
      clear hrg1 hk1 hm hmX hTu hMb0 hMb hst hlt1 HD hsz1
      go_wp2_with (first
        | (at_range; refine wp_nrange (HMB.out _) rfl _ rfl rfl ?_; intro w2 hrg2 hk2 hs2))
      try go_frame
      have e3 : (w1.alloc (.cells #[.int .i64 at_, .map (some b)] 69)).heap.size = w1.heap.size + 1 := by simp
      rw [e3] at hrg2 hs2
      try rw [e3]
      have HS2 := hid (hk2.at (heap_alloc_new w1 (.cells #[.int .i64 at_, .map (some b)] 69)) (by simp))
      have HD2 := hid (((HD1.out.keptN ((Kept.refl [] w1).alloc _)).keptN hk2).more (q := (w1.heap.size, #[.int .i64 at_, .map (some b)], 69)) HS2.out (by show (69 : Nat) ≠ 48; decide))
      have HRG2 := hid hrg2
      clear HD1 HMB hk2 hrg2 HS2 hen e3
      go_loopw [5] (fun dv wq => ∃ (Tn : Notes) (cnt2 : Nat) (D2 : List Pr) (a2 : Option Addr) (cap2 : Nat), dv = .slice a2 D2.length cap2 ∧ DSt w wq mb delay now X (some k) (adel T k) (w.heap.size + 2) cnt1 ((w1.heap.size, #[.int .i64 at_, .map (some b)], 69) :: [(lb, #[.int .i64 (most : Int), .int .i64 (delay : Int), .map (some mb)], 57), (w.heap.size, #[.pointer (some ⟨lb, 0, none⟩)], 25), (w.heap.size + 1, #[.int .i64 now], 3)]) D2 a2 cap2 ∧ NRange wq b (w1.heap.size + 1) (mixN delay at_ now Tn N) Tn cnt2 ∧ (∀ p ∈ Tn, p ∈ N) ∧ Hid (((D2 ++ pairsS delay now k (at_, Tn)) ++ pairsX delay now (adel T k)).Perm (pairsX delay now X)) ∧ w1.heap.size + 1 < wq.heap.size) (fun _ wq => wq.rangeLeft b (w1.heap.size + 1))
      case atStart =>
        refine ⟨N, _, D, a, cap, rfl, HD2.out, by rw [mixN_start _ _ _ HFX.out.uniq]; exact HRG2.out, fun _ hp => hp, hid ?_, by omega⟩
        have h1 := HP.out
        rw [List.append_assoc]
        exact (HTP.out.symm.append_left D).trans h1
      case round =>
        obtain ⟨Tn, cnt2, D2, a2, cap2, rfl, hDq, hrq, hsub, HPq, hszq⟩ := hrel
        have HDq := hid hDq
        have HRq := hid hrq
        have HSUB := hid hsub
        clear hDq hrq hsub HD2 HRG2 HP hs2
        go_wp2_with (first
          | (at_next; refine wp_nnext HRq.out rfl _ rfl rfl ?_ ?_))
        · intro hT
          subst hT
          have hmp := HRq.out.run.raw
          rw [mixN_end] at hmp
          have HDC := hid ((HDq.out.close (x := (b, at_, N)) HH.out.uniq HMX.out HLK.out hmp).less)
          have HPC := hid (show (D2 ++ pairsX delay now (adel T k)).Perm (pairsX delay now X) by simpa [pairsS] using HPq.out)
          clear hmp HPq HRq HDq
          go_wp2_with fail
          go_roundw
          case rel => exact ⟨_, cnt1, D2, a2, cap2, rfl, HDC.out, HPC.out⟩
          case measure => rw [HDC.out.rng.left_eq]; exact HMS.out
        · intro c n1 n2 w3 cnt3 hcl hmc hrg3 hlt3 hk3 hsz3 hen3
          have hD3 := HDq.out.one hk3 HRq.out.run.iter (HRq.out.run.nomap HDq.out.rng.raw) (by omega) (fun p hp he => HRq.out.run.nomap (HDq.out.each p hp he)) (.inl (by omega))
          have hfn := HFX.out.note _ (HSUB.out _ hmc)
          have hm8 := HH.out.good.rm.2
          have hn8 : n2 ≤ 8 := Nat.le_trans hfn.le hm8
          have HD3 := hid hD3
          have HRG3 := hid hrg3
          have HUT := hid HRq.out.tuniq
          have HMC := hid hmc
          have HPS := hid (pairsS_del (delay := delay) (now := now) (at_ := at_) (k := k) HUT.out hmc)
          have HCL := hid (fun (W : World) (kw : Kept [] w3 W) => due1_any (n := (n1, n2)) (sb := w1.heap.size) (bb := w.heap.size) (ab := w.heap.size + 1) (lb := lb) (delay := delay) (at_ := at_) (now := now)
            (by rw [cell_at ((HD3.out.keptN kw).fix (w1.heap.size, #[.int .i64 at_, .map (some b)], 69) (by simp)).1]; rfl)
            (by rw [cell_at ((HD3.out.keptN kw).fix (w.heap.size, #[.pointer (some ⟨lb, 0, none⟩)], 25) (by simp)).1]; rfl)
            (by rw [cell_at ((HD3.out.keptN kw).fix (w.heap.size + 1, #[.int .i64 now], 3) (by simp)).1]; rfl)
            (by rw [cell_at ((HD3.out.keptN kw).fix (lb, #[.int .i64 (most : Int), .int .i64 (delay : Int), .map (some mb)], 57) (by simp)).1]; rfl)
            HH.out.good.rd.2 hn8 HFX.out.at_)
          have HM3 := hid (show cnt3 < wr.rangeLeft b (w1.heap.size + 1) by rw [HRq.out.run.left_eq]; exact hlt3)
          have hsz3' : w1.heap.size + 1 < w3.heap.size := by omega
          clear hD3 hrg3 hk3 hmc hlt3 HRq HDq hfn hm8 hsz3
          cases hrp : ripe delay at_ now (n1, n2) with
          | false =>
            have HNO := hid (mixN_same (delay := delay) (at_ := at_) (now := now) HFX.out.uniq HUT.out HSUB.out HMC.out (dueN_no hrp))
            rw [hrp] at HPS HCL
            clear hrp
            go_wp2_with (go_at_call 40; refine (HCL.out _ ((Kept.refl [] w3).alloc _)).mono ?_; rintro e w4 ⟨rfl, h4⟩)
            have hk34 := ((Kept.refl [] w3).alloc (.cells #[.int .i64 n1, .int .i64 (n2 : Int)] 73)).step h4 (by simp)
            have HD4 := hid (HD3.out.keptN hk34)
            have HRG4 := hid (show NRange w4 b (w1.heap.size + 1) (mixN delay at_ now (adel Tn c) N) (adel Tn c) cnt3 by rw [HNO.out]; exact HRG3.out.kept hk34 (by simp) (by simp))
            have HP4 := hid (show ((D2 ++ pairsS delay now k (at_, adel Tn c)) ++ pairsX delay now (adel T k)).Perm (pairsX delay now X) from ((HPS.out.symm.append_left D2).append_right _).trans HPq.out)
            have hsz4 := hk34.size
            clear h4 hk34
            go_wp2_with fail
            go_roundw
            case rel => exact ⟨_, cnt3, D2, a2, cap2, rfl, HD4.out, HRG4.out, fun p hp => HSUB.out p (adel_mem.1 hp).1, HP4, by omega⟩
            case measure => rw [HRG4.out.run.left_eq]; exact HM3.out
          | true =>
            have HYES := hid (mixN_step (delay := delay) (at_ := at_) (now := now) HFX.out.uniq HSUB.out HMC.out)
            rw [dueN_yes hrp] at HYES
            rw [hrp] at HPS HCL
            clear hrp
            obtain ⟨D3, HE⟩ : ∃ D3, Hid (D3 = D2 ++ [(k, c)]) := ⟨_, hid rfl⟩
            have hDl : D2.length ≤ 65536 := by
              have h1 := HPq.out.length_eq
              have h2 := HTOT.out
              simp only [List.length_append] at h1
              omega
            have HST := hid (fun (w4 : World) (h4 : Kept [] (w3.alloc (.cells #[.int .i64 n1, .int .i64 (n2 : Int)] 73)) w4) (a5 : Option Addr) (cap5 : Nat) (w5 : World) (ho5 : OwnPr (bare w) w5 a5 cap5 D3)
                (hk5 : Kept (fp a2) (w4.alloc (.cells #[.string ⟨k.toArray⟩, .string ⟨c.toArray⟩] 48)) w5) (hfp5 : ∀ i ∈ fp a5, i ∈ fp a2 ∨ (w4.alloc (.cells #[.string ⟨k.toArray⟩, .string ⟨c.toArray⟩] 48)).heap.size ≤ i) =>
              show ∃ w6, (Instr.mapUpdate 67 (.map (some b)) (.string ⟨c.toArray⟩) (.agg #[.int .i64 1, .int .i64 (n2 : Int)])).run Try.prog w5 = .ok () w6 ∧ w5.cell? ⟨w1.heap.size, 1, none⟩ = some (.map (some b)) ∧ w5.cell? ⟨w3.heap.size, 1, none⟩ = some (.int .i64 (n2 : Int)) ∧
                DSt w w6 mb delay now X (some k) (adel T k) (w.heap.size + 2) cnt1 ((w1.heap.size, #[.int .i64 at_, .map (some b)], 69) :: [(lb, #[.int .i64 (most : Int), .int .i64 (delay : Int), .map (some mb)], 57), (w.heap.size, #[.pointer (some ⟨lb, 0, none⟩)], 25), (w.heap.size + 1, #[.int .i64 now], 3)]) D3 a5 cap5 ∧ NRange w6 b (w1.heap.size + 1) (mixN delay at_ now (adel Tn c) N) (adel Tn c) cnt3 ∧ w1.heap.size + 1 < w6.heap.size from by
              have hk34 := ((Kept.refl [] w3).alloc (.cells #[.int .i64 n1, .int .i64 (n2 : Int)] 73)).step h4 (by simp)
              have hN4 := h4.at (heap_alloc_new w3 (.cells #[.int .i64 n1, .int .i64 (n2 : Int)] 73)) (by simp)
              have hk44 : Kept [] w4 (w4.alloc (.cells #[.string ⟨k.toArray⟩, .string ⟨c.toArray⟩] 48)) := (Kept.refl [] w4).alloc _
              have hD4 := ((HD3.out.keptN hk34).more (q := (w3.heap.size, #[.int .i64 n1, .int .i64 (n2 : Int)], 73)) hN4 (by show (73 : Nat) ≠ 48; decide)).keptN hk44
              have hR4 := (HRG3.out.kept hk34 (by simp) (by simp)).kept hk44 (by simp) (by simp)
              have hD5 := hD4.app ho5 hk5 hfp5
              have hR5 := hR4.kept hk5 (hD4.rowmap (rawmap_nocells hR4.run.raw)) (hD4.rowmap hR4.run.iter)
              obtain ⟨w6, hr6, hR6, hk6, hs6⟩ := hR5.store (by rw [mixN_len]; exact HFX.out.len) c hcl (1, n2) (by
                unfold mixN
                rw [Option.isSome_iff_exists]
                refine ⟨_, alook_of_mem ?_ (List.mem_map.2 ⟨(c, n1, n2), HSUB.out _ HMC.out, rfl⟩)⟩
                have hu := HFX.out.uniq
                unfold AUniq at hu ⊢
                rw [List.pairwise_map]
                exact hu) (fun p hp => (adel_mem.1 hp).2)
              rw [← HYES.out] at hR6
              have hD6 := hD5.one hk6 (rawmap_nocells hR5.run.raw) (fun e => HH.out.out _ HMX.out e.symm) (fun e => hD5.rng.nomap hR5.run.raw e.symm) (fun p hp he => two_of_mem HH.out.apart HH.out.uniq hp HMX.out (by simpa using fun e => he (by rw [e]))) (.inr (List.mem_map.2 ⟨_, HMX.out, rfl⟩))
              have z1 := hk34.size
              have z2 := hk44.size
              have z3 := hk5.size
              exact ⟨w6, hr6, by rw [cell_at (hD5.fix (w1.heap.size, #[.int .i64 at_, .map (some b)], 69) (by simp)).1]; rfl, by rw [cell_at (hD5.fix (w3.heap.size, #[.int .i64 n1, .int .i64 (n2 : Int)], 73) (by simp)).1]; rfl, hD6.less, hR6, by omega⟩)
            have HP4 := hid (show ((D3 ++ pairsS delay now k (at_, adel Tn c)) ++ pairsX delay now (adel T k)).Perm (pairsX delay now X) from by
              rw [HE.out, List.append_assoc D2]
              exact ((HPS.out.symm.append_left D2).append_right _).trans HPq.out)
            go_wp2_with (first
              | (go_at_call 40; refine (HCL.out _ ((Kept.refl [] w3).alloc _)).mono ?_; rintro e w4 ⟨rfl, h4⟩; have HK4 := hid h4; clear h4)
              | (at_builtin; refine wp_appL encPrOk Try.underlying37 HE.out (((HD3.out.keptN ((Kept.refl [] w3).alloc _)).keptN HK4.out).row.later ((Kept.refl [] w4).alloc _)) (list_box encPrOk (heap_alloc_new w4 _) rfl (by simp [maxLen])) (by simp; omega) rfl _ _ rfl rfl rfl rfl rfl ?_; intro a5 cap5 w5 ho5 hk5 hfp5
                 obtain ⟨w6, hr6, cs5, cn5, D6, R6, hs6⟩ := HST.out w4 HK4.out a5 cap5 w5 ho5 hk5 hfp5
                 have HD6 := hid D6
                 have HRG6 := hid R6
                 clear D6 R6 ho5 hk5 hfp5))
            go_roundw
            case rel => exact ⟨_, cnt3, D3, a5, cap5, rfl, HD6.out, HRG6.out, fun p hp => HSUB.out p (adel_mem.1 hp).1, HP4, by omega⟩
            case measure => rw [HRG6.out.run.left_eq]; exact HM3.out
end Go.Proofs.Ytdikijbkfhimoaa
