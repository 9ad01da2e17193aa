/- WorkflowOnce: the walk. Printed by gen_once.py. -/
import Derived.Test.YtionejokdfgmhaaLawQ
namespace Go.Proofs.Ytionejokdfgmhaa
open Go.RowKit Go.Maps

theorem fin_take {U : Wfs} {k : Str} {now : Int} {x : Proc} (h : alook U k = some x) (hf : Fin x) : takeR U k now = if x.step = x.steps.length then ([], [], 18) else ([], [], 11) := by
  rw [take_at h, hf.st]
  rcases hf with ⟨h1, h2⟩ | ⟨h1, h2⟩
  · rw [if_pos h1, if_neg (by decide), if_neg (by decide), if_neg (by decide), if_pos h2, if_pos h1]
  · rw [if_neg h1, if_neg (by decide), if_neg (by decide), if_pos rfl, if_neg h1]
/-- What Take leaves of a workflow that is approved, or rejected. -/
theorem take_fin {U : Wfs} {k : Str} {now : Int} {x : Proc} (h : alook U k = some x) (hs : x.step = x.steps.length ∨ x.rej = true) : ∃ y, alook (takeU U k now) k = some y ∧ Fin y ∧ y.step = x.step ∧ y.steps = x.steps := by
  by_cases h1 : x.step = x.steps.length
  · have hst : ∀ t, stS x t = sApproved := fun t => by unfold stS; rw [if_pos h1]
    have ht : takeR U k now = if x.tak then ([], [], 18) else (x.kind, x.user, 0) := by rw [take_at h, hst, if_neg (by decide), if_neg (by decide), if_neg (by decide)]
    unfold takeU
    rw [ht]
    by_cases h2 : x.tak = true
    · rw [if_pos h2, if_neg (by simp)]
      exact ⟨x, h, .inl ⟨h1, h2⟩, rfl, rfl⟩
    · rw [if_neg h2, if_pos rfl]
      refine ⟨takX x, ?_, .inl ⟨h1, rfl⟩, rfl, rfl⟩
      rw [alook_upd, if_pos rfl, h]; rfl
  · have h2 : x.rej = true := hs.resolve_left h1
    have hst : ∀ t, stS x t = sRejected := fun t => by unfold stS; rw [if_neg h1, if_pos h2]
    have ht : takeR U k now = ([], [], 11) := by rw [take_at h, hst, if_neg (by decide), if_neg (by decide), if_pos rfl]
    unfold takeU
    rw [ht, if_neg (by simp)]
    exact ⟨x, h, .inr ⟨h1, h2⟩, rfl, rfl⟩
theorem stR_at {U : Wfs} {k : Str} {now : Int} {x : Proc} (h : alook U k = some x) : stR U k now = (stS x (lim now), x.step) := by unfold stR; rw [h]
theorem add_bd (t d : Int) : lim (add t d) = add t d := lim_lim _

set_option maxHeartbeats 32000000 in
set_option maxRecDepth 100000 in
theorem once_walk {w : World} {a b : Option Addr} {cap cap2 : Nat} {l m : List OpD} (h : OpsAt w a l) (h2 : OpsAt w b m) (id : ByteArray) (hid0 : id.size ≤ maxLen) (t : Int) (_ht : (Lit.int .i64 t).wf = true) :
    Calls Try.prog 8 #[.slice a l.length cap, .slice b m.length cap2, .string id, .int .i64 t] w fun e w' => e = .returned (.bool true) ∧ Below w.heap.size w w' := by
  have HLA := hid (fun wq (k : Kept [] w wq) => long_any (cap := cap) (h.keptN k) 12)
  have HLB := hid (fun wq (k : Kept [] w wq) => long_any (cap := cap2) (h2.keptN k) 12)
  have H := hid h
  have H2 := hid h2
  have hmf := h2.cells.few
  unfold maxLen at hmf
  clear h h2
  cases t1 : longB 12 l
  · rw [t1] at HLA
    cases t2 : longB 12 m
    · rw [t2] at HLB
      have HSL := hid (long_no t1).2
      have HSM := hid (long_no t2).2
      by_cases t3 : 300 < id.size
      · clear t1 t2
        go_enter Try.func8, Try.ntmps8
        go_wp2_with fail
        refine (live_any w).mono ?_
        rintro e w1 ⟨rfl, k1⟩
        have K1 := hid k1
        clear k1
        go_wp2_with fail
        refine (HLA.out _ K1.out).mono ?_
        rintro e w2 ⟨rfl, k2⟩
        have K2 := hid (K1.out.step k2 (by simp))
        clear k2
        go_wp2_with fail
        refine (HLB.out _ K2.out).mono ?_
        rintro e w3 ⟨rfl, k3⟩
        have K3 := hid (K2.out.step k3 (by simp))
        clear k3
        go_wp2_with fail
        go_ret
        exact ⟨rfl, (K3.out).bel⟩
      · clear t1 t2
        obtain ⟨U, HU⟩ : ∃ U, Hid (runU l = U) := ⟨_, hid rfl⟩
        cases hq : alook U id.data.toList with
        | none =>
          have HR := hid (show stR U id.data.toList t = ([], 0) by unfold stR; rw [hq])
          have HT := hid (show takeR U id.data.toList t = ([], [], 6) by unfold takeR; rw [hq])
          clear hq
          go_enter Try.func8, Try.ntmps8
          go_wp2_with fail
          refine (live_any w).mono ?_
          rintro e w1 ⟨rfl, k1⟩
          have K1 := hid k1
          clear k1
          go_wp2_with fail
          refine (HLA.out _ K1.out).mono ?_
          rintro e w2 ⟨rfl, k2⟩
          have K2 := hid (K1.out.step k2 (by simp))
          clear k2
          go_wp2_with fail
          refine (HLB.out _ K2.out).mono ?_
          rintro e w3 ⟨rfl, k3⟩
          have K3 := hid (K2.out.step k3 (by simp))
          clear k3
          go_wp2_with fail
          refine (run_any (cap := cap) (H.out.keptN K3.out) HSL.out).mono ?_
          rintro e w4 ⟨wb, mb, rfl, h4⟩
          have H4 := hid (h4.rebase K3.out)
          clear h4
          rw [HU.out] at H4
          go_wp2_with fail
          refine (state_st H4.out id hid0 t (r := ([], 0)) HR.out).mono ?_
          rintro e w5 ⟨rfl, k5⟩
          have H5 := hid (H4.out.keptN k5)
          clear k5 H4
          go_wp2_with fail
          refine (take_st H5.out id hid0 t (r := ([], [], 6)) HT.out).mono ?_
          rintro e w6 ⟨rfl, h6⟩
          have H6 := hid h6
          clear h6 H5
          go_wp2_with fail
          go_ret
          exact ⟨rfl, (H6.out.kept).bel⟩
        | some x =>
          have HQ := hid hq
          have HR0 := hid (stR_at (now := t) hq)
          have HT0 := hid (take_at (now := t) hq)
          have hst : stS x (lim t) = if x.step = x.steps.length then sApproved else if x.rej then sRejected else if x.until_ ≤ lim t then sExpired else sPending := rfl
          clear hq
          by_cases h1 : x.step = x.steps.length
          · rw [if_pos h1] at hst
            have HFIN := hid (take_fin (now := t) HQ.out (.inl h1))
            have HSTEP := hid h1
            have HR := hid (show stR U id.data.toList t = ([97, 112, 112, 114, 111, 118, 101, 100], x.step) by rw [HR0.out, hst]; rfl)
            cases h2 : x.tak
            · have HT := hid (show takeR U id.data.toList t = (x.kind, x.user, 0) by rw [HT0.out, hst, if_neg (by decide), if_neg (by decide), if_neg (by decide), h2]; rfl)
              clear h1 h2 hst
              go_enter Try.func8, Try.ntmps8
              go_wp2_with fail
              refine (live_any w).mono ?_
              rintro e w1 ⟨rfl, k1⟩
              have K1 := hid k1
              clear k1
              go_wp2_with fail
              refine (HLA.out _ K1.out).mono ?_
              rintro e w2 ⟨rfl, k2⟩
              have K2 := hid (K1.out.step k2 (by simp))
              clear k2
              go_wp2_with fail
              refine (HLB.out _ K2.out).mono ?_
              rintro e w3 ⟨rfl, k3⟩
              have K3 := hid (K2.out.step k3 (by simp))
              clear k3
              go_wp2_with fail
              refine (run_any (cap := cap) (H.out.keptN K3.out) HSL.out).mono ?_
              rintro e w4 ⟨wb, mb, rfl, h4⟩
              have H4 := hid (h4.rebase K3.out)
              clear h4
              rw [HU.out] at H4
              go_wp2_with fail
              refine (state_st H4.out id hid0 t (r := ([97, 112, 112, 114, 111, 118, 101, 100], x.step)) HR.out).mono ?_
              rintro e w5 ⟨rfl, k5⟩
              have H5 := hid (H4.out.keptN k5)
              clear k5 H4
              go_wp2_with fail
              refine (take_st H5.out id hid0 t (r := (x.kind, x.user, 0)) HT.out).mono ?_
              rintro e w6 ⟨rfl, h6⟩
              have H6 := hid h6
              clear h6 H5
              go_wp2_with fail
              obtain ⟨U1, HU1⟩ : ∃ U1, Hid (takeU U id.data.toList t = U1) := ⟨_, hid rfl⟩
              rw [HU1.out] at H6
              obtain ⟨y, hy1, hy2, hy3, hy4⟩ := HFIN.out
              rw [HU1.out] at hy1
              have HY1 := hid hy1
              have HY2 := hid hy2
              have HY3 := hid hy3
              have HY4 := hid hy4
              clear hy1 hy2 hy3 hy4
              go_loopw [82] (fun i wr => ∃ k : Nat, k ≤ m.length ∧ i = .int .i64 k ∧ St w wr wb mb (run7 U1 (m.take k)) ⟨w, []⟩) (fun i _ => m.length - (intOf i).toNat)
              case atStart => exact ⟨0, Nat.zero_le _, rfl, H6.out.free w⟩
              case round =>
                obtain ⟨k, hk, rfl, hst⟩ := hrel
                have HST := hid hst
                clear hst H6
                by_cases hlt : k < m.length
                · obtain ⟨b', off, rfl, hb, hc, hl1⟩ := (H2.out.keptN HST.out.kept).get hlt
                  have hb1 : (0 : Int) ≤ k := by omega
                  have hb2 : (k : Int) < m.length := by omega
                  have HSX := hid (HSM.out _ (List.getElem_mem hlt))
                  have HN := hid (run7_snoc U1 m k hlt)
                  have HL1 := hid hl1
                  clear hl1
                  generalize m[k] = o at *
                  obtain ⟨d0, d1, d2, d3, d4, d5, d6, d7, d8⟩ := hc
                  unfold sV at d1 d2 d3 d4
                  by_cases h7 : o.kind = 7
                  · have h7b : (o.kind != 7) = false := by simp [h7]
                    have HN2 := hid (show run7 U1 (m.take (k + 1)) = run7 U1 (m.take k) by rw [HN.out, if_pos h7])
                    clear h7 d1 d2 d3 d4 d5 d6 d7 d8
                    go_wp2_with fail
                    go_roundw
                    case rel => exact ⟨k + 1, by omega, by go_num, by rw [HN2.out]; exact HST.out⟩
                    case measure => simp [intOf]; omega
                  · have h7b : (o.kind != 7) = true := by simpa using h7
                    have HN2 := hid (show run7 U1 (m.take (k + 1)) = doU (run7 U1 (m.take k)) o by rw [HN.out, if_neg h7])
                    clear h7
                    have HD := hid (do_st HST.out o HSX.out HL1.out)
                    go_wp2_with fail
                    refine HD.out.mono ?_
                    rintro e w7 ⟨⟨a7, c7, rfl, s7, n7⟩, h7⟩
                    have H7 := hid h7
                    clear h7
                    go_wp2_with fail
                    go_roundw
                    case rel => exact ⟨k + 1, by omega, by go_num, by rw [HN2.out]; exact H7.out⟩
                    case measure => simp [intOf]; omega
                · have HTK := hid (List.take_of_length_le (l := m) (i := k) (by omega))
                  rw [HTK.out] at HST
                  have HY5 := hid (fin_run HY2.out HY1.out m)
                  have HR2 := hid (show stR (run7 U1 m) id.data.toList (add t 1) = ([97, 112, 112, 114, 111, 118, 101, 100], x.step) by rw [stR_at HY5.out, HY2.out.st, HY3.out, HY4.out]; rw [if_pos HSTEP.out]; rfl)
                  have HT2 := hid (show takeR (run7 U1 m) id.data.toList t = ([], [], 18) by rw [fin_take HY5.out HY2.out, HY3.out, HY4.out]; rw [if_pos HSTEP.out])
                  have q1 : ((x.step : Int) == (x.step : Int)) = true := beq_self_eq_true _
                  go_wp2_with fail
                  refine (add_any _ _ _).mono ?_
                  rintro e w8 ⟨rfl, rfl⟩
                  go_wp2_with fail
                  refine (state_st HST.out id hid0 (add t 1) (r := ([97, 112, 112, 114, 111, 118, 101, 100], x.step)) HR2.out).mono ?_
                  rintro e w9 ⟨rfl, k9⟩
                  have H9 := hid (HST.out.keptN k9)
                  clear k9
                  go_wp2_with fail
                  refine (take_st H9.out id hid0 t (r := ([], [], 18)) HT2.out).mono ?_
                  rintro e w10 ⟨rfl, h10⟩
                  have H10 := hid h10
                  clear h10 H9
                  go_wp2_with fail
                  go_ret
                  exact ⟨rfl, (H10.out.kept).bel⟩
            · have HT := hid (show takeR U id.data.toList t = ([], [], 18) by rw [HT0.out, hst, if_neg (by decide), if_neg (by decide), if_neg (by decide), h2]; rfl)
              clear h1 h2 hst
              go_enter Try.func8, Try.ntmps8
              go_wp2_with fail
              refine (live_any w).mono ?_
              rintro e w1 ⟨rfl, k1⟩
              have K1 := hid k1
              clear k1
              go_wp2_with fail
              refine (HLA.out _ K1.out).mono ?_
              rintro e w2 ⟨rfl, k2⟩
              have K2 := hid (K1.out.step k2 (by simp))
              clear k2
              go_wp2_with fail
              refine (HLB.out _ K2.out).mono ?_
              rintro e w3 ⟨rfl, k3⟩
              have K3 := hid (K2.out.step k3 (by simp))
              clear k3
              go_wp2_with fail
              refine (run_any (cap := cap) (H.out.keptN K3.out) HSL.out).mono ?_
              rintro e w4 ⟨wb, mb, rfl, h4⟩
              have H4 := hid (h4.rebase K3.out)
              clear h4
              rw [HU.out] at H4
              go_wp2_with fail
              refine (state_st H4.out id hid0 t (r := ([97, 112, 112, 114, 111, 118, 101, 100], x.step)) HR.out).mono ?_
              rintro e w5 ⟨rfl, k5⟩
              have H5 := hid (H4.out.keptN k5)
              clear k5 H4
              go_wp2_with fail
              refine (take_st H5.out id hid0 t (r := ([], [], 18)) HT.out).mono ?_
              rintro e w6 ⟨rfl, h6⟩
              have H6 := hid h6
              clear h6 H5
              go_wp2_with fail
              obtain ⟨U1, HU1⟩ : ∃ U1, Hid (takeU U id.data.toList t = U1) := ⟨_, hid rfl⟩
              rw [HU1.out] at H6
              obtain ⟨y, hy1, hy2, hy3, hy4⟩ := HFIN.out
              rw [HU1.out] at hy1
              have HY1 := hid hy1
              have HY2 := hid hy2
              have HY3 := hid hy3
              have HY4 := hid hy4
              clear hy1 hy2 hy3 hy4
              go_loopw [82] (fun i wr => ∃ k : Nat, k ≤ m.length ∧ i = .int .i64 k ∧ St w wr wb mb (run7 U1 (m.take k)) ⟨w, []⟩) (fun i _ => m.length - (intOf i).toNat)
              case atStart => exact ⟨0, Nat.zero_le _, rfl, H6.out.free w⟩
              case round =>
                obtain ⟨k, hk, rfl, hst⟩ := hrel
                have HST := hid hst
                clear hst H6
                by_cases hlt : k < m.length
                · obtain ⟨b', off, rfl, hb, hc, hl1⟩ := (H2.out.keptN HST.out.kept).get hlt
                  have hb1 : (0 : Int) ≤ k := by omega
                  have hb2 : (k : Int) < m.length := by omega
                  have HSX := hid (HSM.out _ (List.getElem_mem hlt))
                  have HN := hid (run7_snoc U1 m k hlt)
                  have HL1 := hid hl1
                  clear hl1
                  generalize m[k] = o at *
                  obtain ⟨d0, d1, d2, d3, d4, d5, d6, d7, d8⟩ := hc
                  unfold sV at d1 d2 d3 d4
                  by_cases h7 : o.kind = 7
                  · have h7b : (o.kind != 7) = false := by simp [h7]
                    have HN2 := hid (show run7 U1 (m.take (k + 1)) = run7 U1 (m.take k) by rw [HN.out, if_pos h7])
                    clear h7 d1 d2 d3 d4 d5 d6 d7 d8
                    go_wp2_with fail
                    go_roundw
                    case rel => exact ⟨k + 1, by omega, by go_num, by rw [HN2.out]; exact HST.out⟩
                    case measure => simp [intOf]; omega
                  · have h7b : (o.kind != 7) = true := by simpa using h7
                    have HN2 := hid (show run7 U1 (m.take (k + 1)) = doU (run7 U1 (m.take k)) o by rw [HN.out, if_neg h7])
                    clear h7
                    have HD := hid (do_st HST.out o HSX.out HL1.out)
                    go_wp2_with fail
                    refine HD.out.mono ?_
                    rintro e w7 ⟨⟨a7, c7, rfl, s7, n7⟩, h7⟩
                    have H7 := hid h7
                    clear h7
                    go_wp2_with fail
                    go_roundw
                    case rel => exact ⟨k + 1, by omega, by go_num, by rw [HN2.out]; exact H7.out⟩
                    case measure => simp [intOf]; omega
                · have HTK := hid (List.take_of_length_le (l := m) (i := k) (by omega))
                  rw [HTK.out] at HST
                  have HY5 := hid (fin_run HY2.out HY1.out m)
                  have HR2 := hid (show stR (run7 U1 m) id.data.toList (add t 1) = ([97, 112, 112, 114, 111, 118, 101, 100], x.step) by rw [stR_at HY5.out, HY2.out.st, HY3.out, HY4.out]; rw [if_pos HSTEP.out]; rfl)
                  have HT2 := hid (show takeR (run7 U1 m) id.data.toList t = ([], [], 18) by rw [fin_take HY5.out HY2.out, HY3.out, HY4.out]; rw [if_pos HSTEP.out])
                  have q1 : ((x.step : Int) == (x.step : Int)) = true := beq_self_eq_true _
                  go_wp2_with fail
                  refine (add_any _ _ _).mono ?_
                  rintro e w8 ⟨rfl, rfl⟩
                  go_wp2_with fail
                  refine (state_st HST.out id hid0 (add t 1) (r := ([97, 112, 112, 114, 111, 118, 101, 100], x.step)) HR2.out).mono ?_
                  rintro e w9 ⟨rfl, k9⟩
                  have H9 := hid (HST.out.keptN k9)
                  clear k9
                  go_wp2_with fail
                  refine (take_st H9.out id hid0 t (r := ([], [], 18)) HT2.out).mono ?_
                  rintro e w10 ⟨rfl, h10⟩
                  have H10 := hid h10
                  clear h10 H9
                  go_wp2_with fail
                  go_ret
                  exact ⟨rfl, (H10.out.kept).bel⟩
          · rw [if_neg h1] at hst
            by_cases h2 : x.rej = true
            · rw [if_pos h2] at hst
              have HFIN := hid (take_fin (now := t) HQ.out (.inr h2))
              have HSTEP := hid h1
              have HR := hid (show stR U id.data.toList t = ([114, 101, 106, 101, 99, 116, 101, 100], x.step) by rw [HR0.out, hst]; rfl)
              have HT := hid (show takeR U id.data.toList t = ([], [], 11) by rw [HT0.out, hst, if_neg (by decide), if_neg (by decide), if_pos rfl])
              clear h1 h2 hst
              go_enter Try.func8, Try.ntmps8
              go_wp2_with fail
              refine (live_any w).mono ?_
              rintro e w1 ⟨rfl, k1⟩
              have K1 := hid k1
              clear k1
              go_wp2_with fail
              refine (HLA.out _ K1.out).mono ?_
              rintro e w2 ⟨rfl, k2⟩
              have K2 := hid (K1.out.step k2 (by simp))
              clear k2
              go_wp2_with fail
              refine (HLB.out _ K2.out).mono ?_
              rintro e w3 ⟨rfl, k3⟩
              have K3 := hid (K2.out.step k3 (by simp))
              clear k3
              go_wp2_with fail
              refine (run_any (cap := cap) (H.out.keptN K3.out) HSL.out).mono ?_
              rintro e w4 ⟨wb, mb, rfl, h4⟩
              have H4 := hid (h4.rebase K3.out)
              clear h4
              rw [HU.out] at H4
              go_wp2_with fail
              refine (state_st H4.out id hid0 t (r := ([114, 101, 106, 101, 99, 116, 101, 100], x.step)) HR.out).mono ?_
              rintro e w5 ⟨rfl, k5⟩
              have H5 := hid (H4.out.keptN k5)
              clear k5 H4
              go_wp2_with fail
              refine (take_st H5.out id hid0 t (r := ([], [], 11)) HT.out).mono ?_
              rintro e w6 ⟨rfl, h6⟩
              have H6 := hid h6
              clear h6 H5
              go_wp2_with fail
              obtain ⟨U1, HU1⟩ : ∃ U1, Hid (takeU U id.data.toList t = U1) := ⟨_, hid rfl⟩
              rw [HU1.out] at H6
              obtain ⟨y, hy1, hy2, hy3, hy4⟩ := HFIN.out
              rw [HU1.out] at hy1
              have HY1 := hid hy1
              have HY2 := hid hy2
              have HY3 := hid hy3
              have HY4 := hid hy4
              clear hy1 hy2 hy3 hy4
              go_loopw [82] (fun i wr => ∃ k : Nat, k ≤ m.length ∧ i = .int .i64 k ∧ St w wr wb mb (run7 U1 (m.take k)) ⟨w, []⟩) (fun i _ => m.length - (intOf i).toNat)
              case atStart => exact ⟨0, Nat.zero_le _, rfl, H6.out.free w⟩
              case round =>
                obtain ⟨k, hk, rfl, hst⟩ := hrel
                have HST := hid hst
                clear hst H6
                by_cases hlt : k < m.length
                · obtain ⟨b', off, rfl, hb, hc, hl1⟩ := (H2.out.keptN HST.out.kept).get hlt
                  have hb1 : (0 : Int) ≤ k := by omega
                  have hb2 : (k : Int) < m.length := by omega
                  have HSX := hid (HSM.out _ (List.getElem_mem hlt))
                  have HN := hid (run7_snoc U1 m k hlt)
                  have HL1 := hid hl1
                  clear hl1
                  generalize m[k] = o at *
                  obtain ⟨d0, d1, d2, d3, d4, d5, d6, d7, d8⟩ := hc
                  unfold sV at d1 d2 d3 d4
                  by_cases h7 : o.kind = 7
                  · have h7b : (o.kind != 7) = false := by simp [h7]
                    have HN2 := hid (show run7 U1 (m.take (k + 1)) = run7 U1 (m.take k) by rw [HN.out, if_pos h7])
                    clear h7 d1 d2 d3 d4 d5 d6 d7 d8
                    go_wp2_with fail
                    go_roundw
                    case rel => exact ⟨k + 1, by omega, by go_num, by rw [HN2.out]; exact HST.out⟩
                    case measure => simp [intOf]; omega
                  · have h7b : (o.kind != 7) = true := by simpa using h7
                    have HN2 := hid (show run7 U1 (m.take (k + 1)) = doU (run7 U1 (m.take k)) o by rw [HN.out, if_neg h7])
                    clear h7
                    have HD := hid (do_st HST.out o HSX.out HL1.out)
                    go_wp2_with fail
                    refine HD.out.mono ?_
                    rintro e w7 ⟨⟨a7, c7, rfl, s7, n7⟩, h7⟩
                    have H7 := hid h7
                    clear h7
                    go_wp2_with fail
                    go_roundw
                    case rel => exact ⟨k + 1, by omega, by go_num, by rw [HN2.out]; exact H7.out⟩
                    case measure => simp [intOf]; omega
                · have HTK := hid (List.take_of_length_le (l := m) (i := k) (by omega))
                  rw [HTK.out] at HST
                  have HY5 := hid (fin_run HY2.out HY1.out m)
                  have HR2 := hid (show stR (run7 U1 m) id.data.toList (add t 1) = ([114, 101, 106, 101, 99, 116, 101, 100], x.step) by rw [stR_at HY5.out, HY2.out.st, HY3.out, HY4.out]; rw [if_neg HSTEP.out]; rfl)
                  have HT2 := hid (show takeR (run7 U1 m) id.data.toList t = ([], [], 11) by rw [fin_take HY5.out HY2.out, HY3.out, HY4.out]; rw [if_neg HSTEP.out])
                  have q1 : ((x.step : Int) == (x.step : Int)) = true := beq_self_eq_true _
                  go_wp2_with fail
                  refine (add_any _ _ _).mono ?_
                  rintro e w8 ⟨rfl, rfl⟩
                  go_wp2_with fail
                  refine (state_st HST.out id hid0 (add t 1) (r := ([114, 101, 106, 101, 99, 116, 101, 100], x.step)) HR2.out).mono ?_
                  rintro e w9 ⟨rfl, k9⟩
                  have H9 := hid (HST.out.keptN k9)
                  clear k9
                  go_wp2_with fail
                  refine (take_st H9.out id hid0 t (r := ([], [], 11)) HT2.out).mono ?_
                  rintro e w10 ⟨rfl, h10⟩
                  have H10 := hid h10
                  clear h10 H9
                  go_wp2_with fail
                  go_ret
                  exact ⟨rfl, (H10.out.kept).bel⟩
            · rw [if_neg h2] at hst
              by_cases h3 : x.until_ ≤ lim t
              · rw [if_pos h3] at hst
                have HR := hid (show stR U id.data.toList t = ([101, 120, 112, 105, 114, 101, 100], x.step) by rw [HR0.out, hst]; rfl)
                have HT := hid (show takeR U id.data.toList t = ([], [], 13) by rw [HT0.out, hst, if_neg (by decide), if_pos rfl])
                clear h1 h2 h3 hst
                go_enter Try.func8, Try.ntmps8
                go_wp2_with fail
                refine (live_any w).mono ?_
                rintro e w1 ⟨rfl, k1⟩
                have K1 := hid k1
                clear k1
                go_wp2_with fail
                refine (HLA.out _ K1.out).mono ?_
                rintro e w2 ⟨rfl, k2⟩
                have K2 := hid (K1.out.step k2 (by simp))
                clear k2
                go_wp2_with fail
                refine (HLB.out _ K2.out).mono ?_
                rintro e w3 ⟨rfl, k3⟩
                have K3 := hid (K2.out.step k3 (by simp))
                clear k3
                go_wp2_with fail
                refine (run_any (cap := cap) (H.out.keptN K3.out) HSL.out).mono ?_
                rintro e w4 ⟨wb, mb, rfl, h4⟩
                have H4 := hid (h4.rebase K3.out)
                clear h4
                rw [HU.out] at H4
                go_wp2_with fail
                refine (state_st H4.out id hid0 t (r := ([101, 120, 112, 105, 114, 101, 100], x.step)) HR.out).mono ?_
                rintro e w5 ⟨rfl, k5⟩
                have H5 := hid (H4.out.keptN k5)
                clear k5 H4
                go_wp2_with fail
                refine (take_st H5.out id hid0 t (r := ([], [], 13)) HT.out).mono ?_
                rintro e w6 ⟨rfl, h6⟩
                have H6 := hid h6
                clear h6 H5
                go_wp2_with fail
                go_ret
                exact ⟨rfl, (H6.out.kept).bel⟩
              · rw [if_neg h3] at hst
                have HR := hid (show stR U id.data.toList t = ([112, 101, 110, 100, 105, 110, 103], x.step) by rw [HR0.out, hst]; rfl)
                have HT := hid (show takeR U id.data.toList t = ([], [], 23) by rw [HT0.out, hst, if_pos rfl])
                clear h1 h2 h3 hst
                go_enter Try.func8, Try.ntmps8
                go_wp2_with fail
                refine (live_any w).mono ?_
                rintro e w1 ⟨rfl, k1⟩
                have K1 := hid k1
                clear k1
                go_wp2_with fail
                refine (HLA.out _ K1.out).mono ?_
                rintro e w2 ⟨rfl, k2⟩
                have K2 := hid (K1.out.step k2 (by simp))
                clear k2
                go_wp2_with fail
                refine (HLB.out _ K2.out).mono ?_
                rintro e w3 ⟨rfl, k3⟩
                have K3 := hid (K2.out.step k3 (by simp))
                clear k3
                go_wp2_with fail
                refine (run_any (cap := cap) (H.out.keptN K3.out) HSL.out).mono ?_
                rintro e w4 ⟨wb, mb, rfl, h4⟩
                have H4 := hid (h4.rebase K3.out)
                clear h4
                rw [HU.out] at H4
                go_wp2_with fail
                refine (state_st H4.out id hid0 t (r := ([112, 101, 110, 100, 105, 110, 103], x.step)) HR.out).mono ?_
                rintro e w5 ⟨rfl, k5⟩
                have H5 := hid (H4.out.keptN k5)
                clear k5 H4
                go_wp2_with fail
                refine (take_st H5.out id hid0 t (r := ([], [], 23)) HT.out).mono ?_
                rintro e w6 ⟨rfl, h6⟩
                have H6 := hid h6
                clear h6 H5
                go_wp2_with fail
                go_ret
                exact ⟨rfl, (H6.out.kept).bel⟩
    · rw [t2] at HLB
      clear t1 t2
      go_enter Try.func8, Try.ntmps8
      go_wp2_with fail
      refine (live_any w).mono ?_
      rintro e w1 ⟨rfl, k1⟩
      have K1 := hid k1
      clear k1
      go_wp2_with fail
      refine (HLA.out _ K1.out).mono ?_
      rintro e w2 ⟨rfl, k2⟩
      have K2 := hid (K1.out.step k2 (by simp))
      clear k2
      go_wp2_with fail
      refine (HLB.out _ K2.out).mono ?_
      rintro e w3 ⟨rfl, k3⟩
      have K3 := hid (K2.out.step k3 (by simp))
      clear k3
      go_wp2_with fail
      go_ret
      exact ⟨rfl, (K3.out).bel⟩
  · rw [t1] at HLA
    clear t1
    go_enter Try.func8, Try.ntmps8
    go_wp2_with fail
    refine (live_any w).mono ?_
    rintro e w1 ⟨rfl, k1⟩
    have K1 := hid k1
    clear k1
    go_wp2_with fail
    refine (HLA.out _ K1.out).mono ?_
    rintro e w2 ⟨rfl, k2⟩
    have K2 := hid (K1.out.step k2 (by simp))
    clear k2
    go_wp2_with fail
    go_ret
    exact ⟨rfl, (K2.out).bel⟩
end Go.Proofs.Ytionejokdfgmhaa
