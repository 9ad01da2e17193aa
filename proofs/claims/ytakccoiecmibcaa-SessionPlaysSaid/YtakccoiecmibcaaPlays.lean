/- SessionPlays: the walk. Printed by gen_plays.py. -/
import Derived.Test.YtakccoiecmibcaaBoths
import Derived.Deep.RegionHeld3
namespace Go.Proofs.Ytakccoiecmibcaa
open Go.RowKit Go.Maps

set_option maxHeartbeats 64000000 in
set_option maxRecDepth 100000 in
theorem plays_walk {w : World} (idle : Int) (_wi : (Lit.int .i64 idle).wf = true) (abs : Int) (_wa : (Lit.int .i64 abs).wf = true) {a : Option Addr} {cap : Nat} {l : List OpD} (h : OpsAt w a l) (now : Int) (_wn : (Lit.int .i64 now).wf = true) :
    Calls Try.prog 4 #[.int .i64 idle, .int .i64 abs, .slice a l.length cap, .int .i64 now] w fun e w' => e = .returned (.bool true) ∧ Below w.heap.size w w' := by
  have H := hid h
  have hlf := h.cells.few
  unfold maxLen at hlf
  have HLG := hid (light_any (cap := cap) h)
  clear h _wi _wa _wn
  cases t1 : lightB l
  · rw [t1] at HLG
    clear t1
    go_enter Try.func4, Try.ntmps4
    go_wp2_with fail
    refine HLG.out.mono ?_
    rintro e w1 ⟨rfl, k1⟩
    have K1 := hid k1
    clear k1
    go_wp2_with fail
    refine (awake_any _).mono ?_
    rintro e w99 ⟨rfl, k99⟩
    have K99 := hid ((K1.out).step k99 (by simp))
    clear k99
    go_wp2_with fail
    go_ret
    exact ⟨rfl, K99.out.bel⟩
  · rw [t1] at HLG
    obtain ⟨hl24, hsm⟩ := light_ok t1
    have HSM := hid hsm
    clear t1 hsm
    by_cases hc : newC idle abs = 0
    · have HNW := hid (fun wq (k : Kept [] w wq) => new_st k hc)
      have HC := hid hc
      clear hc
      go_enter Try.func4, Try.ntmps4
      go_wp2_with fail
      refine HLG.out.mono ?_
      rintro e w1 ⟨rfl, k1⟩
      have K1 := hid k1
      clear k1
      go_wp2_with fail
      refine (HNW.out _ K1.out).mono ?_
      rintro e w2 ⟨sb, mb, rfl, h2⟩
      have HNR := hid (new_both h2 HC.out)
      clear h2 HNW
      go_wp2_with fail
      refine HNR.out.mono ?_
      rintro e w3 ⟨qb, rfl, h3⟩
      have H3 := hid h3
      clear h3 HNR
      go_wp2_with fail
      go_loopw [13] (fun i wr => ∃ (k : Nat) (U : Sss), k ≤ l.length ∧ i = .int .i64 k ∧ Both w wr sb mb (lim idle) (lim abs) U qb U none []) (fun i _ => l.length - (intOf i).toNat)
      case atStart => exact ⟨0, _, Nat.zero_le _, rfl, H3.out⟩
      case round =>
        obtain ⟨k, U, hk, rfl, hst⟩ := hrel
        have HST := hid hst
        clear hst H3
        by_cases hlt : k < l.length
        · obtain ⟨b', off, rfl, hb, hc, hl1⟩ := (H.out.keptN HST.out.kept).get hlt
          have hb1 : (0 : Int) ≤ k := by omega
          have hb2 : (k : Int) < l.length := by omega
          have HSO := hid (HSM.out _ (List.getElem_mem hlt))
          have HOC := hid (fun wq (kq : Kept [] w wq) => ((H.out.keptN kq).get hlt))
          clear hl1
          generalize l[k] = o at *
          clear hc
          have HCELL := hid (fun wq (kq : Kept [] w wq) => show wq.cell? ⟨b', off + k * 8, none⟩ = some (.int .i64 o.call) ∧ wq.cell? ⟨b', off + k * 8 + 1, none⟩ = some (.int .i64 o.now) ∧ wq.cell? ⟨b', off + k * 8 + 2, none⟩ = some (.string ⟨o.id.toArray⟩) ∧ wq.cell? ⟨b', off + k * 8 + 3, none⟩ = some (.string ⟨o.user.toArray⟩) ∧ wq.cell? ⟨b', off + k * 8 + 4, none⟩ = some (.string ⟨o.tenant.toArray⟩) ∧ wq.cell? ⟨b', off + k * 8 + 5, none⟩ = some (.string ⟨o.device.toArray⟩) ∧ wq.cell? ⟨b', off + k * 8 + 6, none⟩ = some (.string ⟨o.client.toArray⟩) ∧ wq.cell? ⟨b', off + k * 8 + 7, none⟩ = some (.slice o.pa o.proofs.length o.pc) by
            obtain ⟨b2, off2, e2, _, hc2, _⟩ := HOC.out _ kq
            injection e2 with e2; injection e2 with e2 e2'; subst e2; subst e2'
            exact ⟨hc2.c0, hc2.c1, hc2.c2, hc2.c3, hc2.c4, hc2.c5, hc2.c6, hc2.c7⟩)
          have HOL := hid (fun wq (kq : Kept [] w wq) => show PrfsAt wq o.pa o.proofs by obtain ⟨_, _, _, _, _, hq⟩ := HOC.out _ kq; exact hq)
          have HDA := do_both HST.out o HSO.out (HOL.out _ HST.out.kept)
          have HDB := fun wq a10 (hq : Both w wq sb mb (lim idle) (lim abs) (doU (lim idle) (lim abs) U o) qb U a10 (doL U o)) => done_both hq o HSO.out (HOL.out _ hq.kept)
          obtain ⟨L, HL⟩ : ∃ L, Hid (doL U o = L) := ⟨_, hid rfl⟩
          rw [HL.out] at HDA HDB
          obtain ⟨V, HV⟩ : ∃ V, Hid (doU (lim idle) (lim abs) U o = V) := ⟨_, hid rfl⟩
          rw [HV.out] at HDA HDB
          obtain ⟨E, HE⟩ : ∃ E, Hid (doE U o = E) := ⟨_, hid rfl⟩
          rw [HE.out] at HDA HDB
          have HDA2 := hid HDA
          have HDB2 := hid HDB
          clear HDA HDB HOC
          obtain ⟨c, HCF⟩ : ∃ c, Hid (findC V o.id now = c) := ⟨_, hid rfl⟩
          obtain ⟨r, HR⟩ : ∃ r, Hid (getR V o.id now = r) := ⟨_, hid rfl⟩
          obtain ⟨n, HN⟩ : ∃ n, Hid (lenN V = n) := ⟨_, hid rfl⟩
          obtain ⟨M, HM⟩ : ∃ M, Hid (ofL V o.user o.now = M) := ⟨_, hid rfl⟩
          obtain ⟨d0, d1, d2, d3, d4, d5, d6, d7⟩ := HCELL.out wr HST.out.kept
          go_wp2_with fail
          refine HDA2.out.mono ?_
          rintro e w10 ⟨a10, c10, rfl, h10⟩
          have HB10 := hid (HDB2.out _ _ h10)
          have H10 := hid h10.kept
          clear h10 d0 d1 d2 d3 d4 d5 d6 d7 HDA2 HDB2
          obtain ⟨d0, d1, d2, d3, d4, d5, d6, d7⟩ := HCELL.out w10 H10.out
          go_wp2_with fail
          refine HB10.out.mono ?_
          rintro e w11 ⟨a11, c11, rfl, s11, s10, h11⟩
          have H11 := hid h11
          have HG1 := hid (get_both h11 ⟨o.id.toArray⟩ HSO.out.ids.1 now HCF.out HR.out)
          have S10 := hid s10
          have S11 := hid s11
          clear h11 s10 s11 d0 d1 d2 d3 d4 d5 d6 d7 HB10 H10
          obtain ⟨d0, d1, d2, d3, d4, d5, d6, d7⟩ := HCELL.out w11 H11.out.kept
          go_wp2_with fail
          refine HG1.out.mono ?_
          rintro e w12 ⟨pa1, pc1, ca1, cc1, rfl, p1, s1, _, _, k12⟩
          clear d0 d1 d2 d3 d4 d5 d6 d7
          have hb12 := heap_alloc_new w12 (.cells #[.string ⟨r.1.toArray⟩, .string ⟨r.2.user.toArray⟩, .string ⟨r.2.tenant.toArray⟩, .string ⟨r.2.device.toArray⟩, .int .i64 r.2.started, .int .i64 r.2.seen, .int .i64 r.2.until_, .slice pa1 r.2.proofs.length pc1, .slice ca1 r.2.clients.length cc1] 33 (0, 0))
          have hk12 := k12.alloc (.cells #[.string ⟨r.1.toArray⟩, .string ⟨r.2.user.toArray⟩, .string ⟨r.2.tenant.toArray⟩, .string ⟨r.2.device.toArray⟩, .int .i64 r.2.started, .int .i64 r.2.seen, .int .i64 r.2.until_, .slice pa1 r.2.proofs.length pc1, .slice ca1 r.2.clients.length cc1] 33 (0, 0))
          have P1 := hid (p1.keptN ((Kept.refl [] w12).alloc (.cells #[.string ⟨r.1.toArray⟩, .string ⟨r.2.user.toArray⟩, .string ⟨r.2.tenant.toArray⟩, .string ⟨r.2.device.toArray⟩, .int .i64 r.2.started, .int .i64 r.2.seen, .int .i64 r.2.until_, .slice pa1 r.2.proofs.length pc1, .slice ca1 r.2.clients.length cc1] 33 (0, 0))))
          have S1 := hid (s1.keptN ((Kept.refl [] w12).alloc (.cells #[.string ⟨r.1.toArray⟩, .string ⟨r.2.user.toArray⟩, .string ⟨r.2.tenant.toArray⟩, .string ⟨r.2.device.toArray⟩, .int .i64 r.2.started, .int .i64 r.2.seen, .int .i64 r.2.until_, .slice pa1 r.2.proofs.length pc1, .slice ca1 r.2.clients.length cc1] 33 (0, 0))))
          obtain ⟨b18, HB18⟩ : ∃ b, Hid (b = w12.heap.size) := ⟨_, hid rfl⟩
          obtain ⟨w13, HW13⟩ : ∃ v, Hid (v = w12.alloc (.cells #[.string ⟨r.1.toArray⟩, .string ⟨r.2.user.toArray⟩, .string ⟨r.2.tenant.toArray⟩, .string ⟨r.2.device.toArray⟩, .int .i64 r.2.started, .int .i64 r.2.seen, .int .i64 r.2.until_, .slice pa1 r.2.proofs.length pc1, .slice ca1 r.2.clients.length cc1] 33 (0, 0))) := ⟨_, hid rfl⟩
          rw [← HW13.out] at hb12 hk12 P1 S1
          rw [← HB18.out] at hb12
          have HB12 := hid hb12
          have K13 := hid (H11.out.keptN hk12)
          have KS13 := hid hk12
          have HG2 := hid (rget_both K13.out ⟨o.id.toArray⟩ now HCF.out HR.out)
          have d2 := (HCELL.out _ K13.out.kept).2.2.1
          rw [HW13.out] at d2
          clear p1 s1 k12 hb12 hk12
          go_wp2_with fail
          rw [← HW13.out, ← HB18.out]
          clear d2
          refine HG2.out.mono ?_
          rintro e w14 ⟨pa2, pc2, ca2, cc2, rfl, p2, s2, k14⟩
          have hb14 := heap_alloc_new w14 (.cells #[.string ⟨r.1.toArray⟩, .string ⟨r.2.user.toArray⟩, .string ⟨r.2.tenant.toArray⟩, .string ⟨r.2.device.toArray⟩, .int .i64 r.2.started, .int .i64 r.2.seen, .int .i64 r.2.until_, .slice pa2 r.2.proofs.length pc2, .slice ca2 r.2.clients.length cc2] 33 (0, 0))
          have hk14 := k14.alloc (.cells #[.string ⟨r.1.toArray⟩, .string ⟨r.2.user.toArray⟩, .string ⟨r.2.tenant.toArray⟩, .string ⟨r.2.device.toArray⟩, .int .i64 r.2.started, .int .i64 r.2.seen, .int .i64 r.2.until_, .slice pa2 r.2.proofs.length pc2, .slice ca2 r.2.clients.length cc2] 33 (0, 0))
          have P2 := hid (p2.keptN ((Kept.refl [] w14).alloc (.cells #[.string ⟨r.1.toArray⟩, .string ⟨r.2.user.toArray⟩, .string ⟨r.2.tenant.toArray⟩, .string ⟨r.2.device.toArray⟩, .int .i64 r.2.started, .int .i64 r.2.seen, .int .i64 r.2.until_, .slice pa2 r.2.proofs.length pc2, .slice ca2 r.2.clients.length cc2] 33 (0, 0))))
          have S2 := hid (s2.keptN ((Kept.refl [] w14).alloc (.cells #[.string ⟨r.1.toArray⟩, .string ⟨r.2.user.toArray⟩, .string ⟨r.2.tenant.toArray⟩, .string ⟨r.2.device.toArray⟩, .int .i64 r.2.started, .int .i64 r.2.seen, .int .i64 r.2.until_, .slice pa2 r.2.proofs.length pc2, .slice ca2 r.2.clients.length cc2] 33 (0, 0))))
          obtain ⟨b20, HB20⟩ : ∃ b, Hid (b = w14.heap.size) := ⟨_, hid rfl⟩
          obtain ⟨w15, HW15⟩ : ∃ v, Hid (v = w14.alloc (.cells #[.string ⟨r.1.toArray⟩, .string ⟨r.2.user.toArray⟩, .string ⟨r.2.tenant.toArray⟩, .string ⟨r.2.device.toArray⟩, .int .i64 r.2.started, .int .i64 r.2.seen, .int .i64 r.2.until_, .slice pa2 r.2.proofs.length pc2, .slice ca2 r.2.clients.length cc2] 33 (0, 0))) := ⟨_, hid rfl⟩
          rw [← HW15.out] at hb14 hk14 P2 S2
          rw [← HB20.out] at hb14
          have HB14 := hid hb14
          have KS15 := hid hk14
          have H15 := hid (K13.out.keptN hk14)
          have HB12' := hid (hk14.at HB12.out (by simp))
          have S10' := hid (S10.out.keptN (KS13.out.step hk14 (by simp)))
          have S11' := hid (S11.out.keptN (KS13.out.step hk14 (by simp)))
          have P1' := hid (P1.out.keptN hk14)
          have S1' := hid (S1.out.keptN hk14)
          clear p2 s2 k14 hb14 hk14 HG2 HG1 S10 S11 P1 S1 K13 KS13 KS15 HB12 H11
          have q1 : (E != E) = false := by simp
          have q2 : (c != c) = false := by simp
          have q3 : ((n : Int) != (n : Int)) = false := by simp
          have HKEEP := hid (fun wq (kq : Kept [] w15 wq) => show (wq.cell? ⟨b', off + k * 8 + 1, none⟩ = some (.int .i64 o.now) ∧ wq.cell? ⟨b', off + k * 8 + 3, none⟩ = some (.string ⟨o.user.toArray⟩)) ∧ (wq.cell? ⟨b18, 0, none⟩ = some (.string ⟨r.1.toArray⟩) ∧ wq.cell? ⟨b18, 1, none⟩ = some (.string ⟨r.2.user.toArray⟩) ∧ wq.cell? ⟨b18, 2, none⟩ = some (.string ⟨r.2.tenant.toArray⟩) ∧ wq.cell? ⟨b18, 3, none⟩ = some (.string ⟨r.2.device.toArray⟩) ∧ wq.cell? ⟨b18, 4, none⟩ = some (.int .i64 r.2.started) ∧ wq.cell? ⟨b18, 5, none⟩ = some (.int .i64 r.2.seen) ∧ wq.cell? ⟨b18, 6, none⟩ = some (.int .i64 r.2.until_) ∧ wq.cell? ⟨b18, 7, none⟩ = some (.slice pa1 r.2.proofs.length pc1) ∧ wq.cell? ⟨b18, 8, none⟩ = some (.slice ca1 r.2.clients.length cc1)) ∧ (wq.cell? ⟨b20, 0, none⟩ = some (.string ⟨r.1.toArray⟩) ∧ wq.cell? ⟨b20, 1, none⟩ = some (.string ⟨r.2.user.toArray⟩) ∧ wq.cell? ⟨b20, 2, none⟩ = some (.string ⟨r.2.tenant.toArray⟩) ∧ wq.cell? ⟨b20, 3, none⟩ = some (.string ⟨r.2.device.toArray⟩) ∧ wq.cell? ⟨b20, 4, none⟩ = some (.int .i64 r.2.started) ∧ wq.cell? ⟨b20, 5, none⟩ = some (.int .i64 r.2.seen) ∧ wq.cell? ⟨b20, 6, none⟩ = some (.int .i64 r.2.until_) ∧ wq.cell? ⟨b20, 7, none⟩ = some (.slice pa2 r.2.proofs.length pc2) ∧ wq.cell? ⟨b20, 8, none⟩ = some (.slice ca2 r.2.clients.length cc2)) from
            ⟨⟨(HCELL.out _ (H15.out.kept.step kq (by simp))).2.1, (HCELL.out _ (H15.out.kept.step kq (by simp))).2.2.2.1⟩, ⟨(nine_cells (kq.at HB12'.out (by simp))).1, (nine_cells (kq.at HB12'.out (by simp))).2.1, (nine_cells (kq.at HB12'.out (by simp))).2.2.1, (nine_cells (kq.at HB12'.out (by simp))).2.2.2.1, (nine_cells (kq.at HB12'.out (by simp))).2.2.2.2.1, (nine_cells (kq.at HB12'.out (by simp))).2.2.2.2.2.1, (nine_cells (kq.at HB12'.out (by simp))).2.2.2.2.2.2.1, (nine_cells (kq.at HB12'.out (by simp))).2.2.2.2.2.2.2.1, (nine_cells (kq.at HB12'.out (by simp))).2.2.2.2.2.2.2.2.1⟩, (nine_cells (kq.at HB14.out (by simp))).1, (nine_cells (kq.at HB14.out (by simp))).2.1, (nine_cells (kq.at HB14.out (by simp))).2.2.1, (nine_cells (kq.at HB14.out (by simp))).2.2.2.1, (nine_cells (kq.at HB14.out (by simp))).2.2.2.2.1, (nine_cells (kq.at HB14.out (by simp))).2.2.2.2.2.1, (nine_cells (kq.at HB14.out (by simp))).2.2.2.2.2.2.1, (nine_cells (kq.at HB14.out (by simp))).2.2.2.2.2.2.2.1, (nine_cells (kq.at HB14.out (by simp))).2.2.2.2.2.2.2.2.1⟩)
          have C1 := hid (fun wq (k : Kept [] w15 wq) => sameX_any (pc1 := pc1) (pc2 := pc2) (cc1 := cc1) (cc2 := cc2) r (P1'.out.keptN k) (P2.out.keptN k) (S1'.out.keptN k) (S2.out.keptN k))
          have C2 := hid (fun wq (k : Kept [] w15 wq) => len_both (H15.out.keptN k) HN.out)
          have C3 := hid (fun wq (k : Kept [] w15 wq) => rlen_both (H15.out.keptN k) HN.out)
          have C4 := hid (fun wq (k : Kept [] w15 wq) => sameS_any (cap := c10) (cap2 := c11) (S10'.out.keptN k) (S11'.out.keptN k))
          have C5 := hid (fun wq (k : Kept [] w15 wq) => of_both (H15.out.keptN k) ⟨o.user.toArray⟩ o.now HM.out)
          have C6 := hid (fun wq (k : Kept [] w15 wq) => rof_both (H15.out.keptN k) ⟨o.user.toArray⟩ o.now HM.out)
          go_wp2_with fail
          rw [← HW15.out, ← HB20.out]
          go_region_held3 (fun w' => (w'.cell? ⟨b', off + k * 8 + 1, none⟩ = some (.int .i64 o.now) ∧ w'.cell? ⟨b', off + k * 8 + 3, none⟩ = some (.string ⟨o.user.toArray⟩)) ∧ (w'.cell? ⟨b18, 0, none⟩ = some (.string ⟨r.1.toArray⟩) ∧ w'.cell? ⟨b18, 1, none⟩ = some (.string ⟨r.2.user.toArray⟩) ∧ w'.cell? ⟨b18, 2, none⟩ = some (.string ⟨r.2.tenant.toArray⟩) ∧ w'.cell? ⟨b18, 3, none⟩ = some (.string ⟨r.2.device.toArray⟩) ∧ w'.cell? ⟨b18, 4, none⟩ = some (.int .i64 r.2.started) ∧ w'.cell? ⟨b18, 5, none⟩ = some (.int .i64 r.2.seen) ∧ w'.cell? ⟨b18, 6, none⟩ = some (.int .i64 r.2.until_) ∧ w'.cell? ⟨b18, 7, none⟩ = some (.slice pa1 r.2.proofs.length pc1) ∧ w'.cell? ⟨b18, 8, none⟩ = some (.slice ca1 r.2.clients.length cc1)) ∧ (w'.cell? ⟨b20, 0, none⟩ = some (.string ⟨r.1.toArray⟩) ∧ w'.cell? ⟨b20, 1, none⟩ = some (.string ⟨r.2.user.toArray⟩) ∧ w'.cell? ⟨b20, 2, none⟩ = some (.string ⟨r.2.tenant.toArray⟩) ∧ w'.cell? ⟨b20, 3, none⟩ = some (.string ⟨r.2.device.toArray⟩) ∧ w'.cell? ⟨b20, 4, none⟩ = some (.int .i64 r.2.started) ∧ w'.cell? ⟨b20, 5, none⟩ = some (.int .i64 r.2.seen) ∧ w'.cell? ⟨b20, 6, none⟩ = some (.int .i64 r.2.until_) ∧ w'.cell? ⟨b20, 7, none⟩ = some (.slice pa2 r.2.proofs.length pc2) ∧ w'.cell? ⟨b20, 8, none⟩ = some (.slice ca2 r.2.clients.length cc2)))
            (first
              | exact HKEEP.out _ K27
              | exact HKEEP.out _ K26
              | exact HKEEP.out _ K25
              | exact HKEEP.out _ K24
              | exact HKEEP.out _ K23
              | exact HKEEP.out _ K22
              | exact HKEEP.out _ K21
              | exact HKEEP.out _ (Kept.refl [] _).drew)
            (first
              | (go_at_call 25; have _t := tk6; refine (sameS_any (s25.keptN k26) s26).mono ?_; rintro e w27 ⟨rfl, k27⟩; have K27 := K26.step k27.kept (by simp))
              | (go_at_call 26; refine (C6.out _ K25).mono ?_; rintro e w26 ⟨a26, c26, rfl, s26, _, k26⟩; have tk6 : True := trivial; have K26 := K25.step k26 (by simp))
              | (go_at_call 15; refine (C5.out _ K24).mono ?_; rintro e w25 ⟨a25, c25, rfl, s25, _, k25⟩; have K25 := K24.step k25 (by simp))
              | (go_at_call 25; refine (C4.out _ K23).mono ?_; rintro e w24 ⟨rfl, k24⟩; have K24 := K23.step k24.kept (by simp))
              | (go_at_call 24; refine (C3.out _ K22).mono ?_; rintro e w23 ⟨rfl, k23⟩; have K23 := K22.step k23 (by simp))
              | (go_at_call 14; refine (C2.out _ K21).mono ?_; rintro e w22 ⟨rfl, k22⟩; have K22 := K21.step k22 (by simp))
              | (go_at_call 23; refine (C1.out _ (Kept.refl [] _).drew).mono ?_; rintro e w21 ⟨rfl, k21⟩; have K21 := (Kept.refl [] _).drew.step k21 (by simp)))
          have H27 := hid (H15.out.keptN K27)
          clear k21 k22 k23 k24 k25 k26 k27 K21 K22 K23 K24 K25 K26 K27
          go_wp2_with fail
          go_roundw
          case rel => exact ⟨k + 1, V, by omega, by go_num, H27.out⟩
          case measure => simp [intOf]; omega
        · go_wp2_with fail
          refine (awake_any _).mono ?_
          rintro e w99 ⟨rfl, k99⟩
          have K99 := hid ((HST.out.kept).step k99 (by simp))
          clear k99
          go_wp2_with fail
          go_ret
          exact ⟨rfl, K99.out.bel⟩
    · have HNW := hid (fun wq => new_bad hc wq)
      have HNR := hid (fun wq => rnew_bad hc wq)
      have hcb : (newC idle abs != 0) = true := by simpa using hc
      generalize newC idle abs = c at *
      clear hc
      have q1 : (c != c) = false := by simp
      have q2 : (c == c) = true := by simp
      go_enter Try.func4, Try.ntmps4
      go_wp2_with fail
      refine HLG.out.mono ?_
      rintro e w1 ⟨rfl, k1⟩
      have K1 := hid k1
      clear k1
      go_wp2_with fail
      refine (HNW.out _).mono ?_
      rintro e w2 ⟨rfl, rfl⟩
      go_wp2_with fail
      refine (HNR.out _).mono ?_
      rintro e w2 ⟨rfl, rfl⟩
      go_wp2_with fail
      refine (awake_any _).mono ?_
      rintro e w99 ⟨rfl, k99⟩
      have K99 := hid ((K1.out).step k99 (by simp))
      clear k99
      go_wp2_with fail
      go_ret
      exact ⟨rfl, K99.out.bel⟩
end Go.Proofs.Ytakccoiecmibcaa
