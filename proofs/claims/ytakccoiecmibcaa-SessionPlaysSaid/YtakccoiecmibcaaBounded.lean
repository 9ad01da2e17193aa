/- SessionBounded: the walk. Printed by gen_bounded.py. -/
import Derived.Test.YtakccoiecmibcaaAwake
namespace Go.Proofs.Ytakccoiecmibcaa
open Go.RowKit Go.Maps

theorem lim_mm (t : Int) : max 0 (min t 1099511627776) = lim t := by unfold lim; omega
theorem run_few {idle abs : Int} {l : List OpD} {k : Nat} (hk : k ≤ l.length) : (runU idle abs (l.take k)).length ≤ k := by
  have := (run_good idle abs (l.take k)).2
  rw [List.length_take] at this
  omega
set_option maxHeartbeats 64000000 in
set_option maxRecDepth 100000 in
theorem bounded_walk {w : World} (idle : Int) (_wi : (Lit.int .i64 idle).wf = true) (abs : Int) (_wa : (Lit.int .i64 abs).wf = true) {a : Option Addr} {cap : Nat} {l : List OpD} (h : OpsAt w a l) (now : Int) (_wn : (Lit.int .i64 now).wf = true) :
    Calls Try.prog 6 #[.int .i64 idle, .int .i64 abs, .slice a l.length cap, .int .i64 now] w fun e w' => e = .returned (.bool true) ∧ Below w.heap.size w w' := by
  have H := hid h
  have hlf := h.cells.few
  unfold maxLen at hlf
  have HLG := hid (light_any (cap := cap) h)
  clear h _wi _wa _wn
  cases t1 : lightB l
  · rw [t1] at HLG
    clear t1
    go_enter Try.func6, Try.ntmps6
    go_wp2_with fail
    refine HLG.out.mono ?_
    rintro e w1 ⟨rfl, k1⟩
    have K1 := hid k1
    clear k1
    go_wp2_with fail
    refine (awake_any _).mono ?_
    rintro e w99 ⟨rfl, k99⟩
    have K99 := hid ((K1.out).step k99 (by simp))
    clear k99
    go_wp2_with fail
    go_ret
    exact ⟨rfl, K99.out.bel⟩
  · rw [t1] at HLG
    obtain ⟨hl24, hsm⟩ := light_ok t1
    have HSM := hid hsm
    clear t1 hsm
    by_cases n0 : now < 0
    · skip
      go_enter Try.func6, Try.ntmps6
      go_wp2_with fail
      refine HLG.out.mono ?_
      rintro e w1 ⟨rfl, k1⟩
      have K1 := hid k1
      clear k1
      go_wp2_with fail
      refine (awake_any _).mono ?_
      rintro e w99 ⟨rfl, k99⟩
      have K99 := hid ((K1.out).step k99 (by simp))
      clear k99
      go_wp2_with fail
      go_ret
      exact ⟨rfl, K99.out.bel⟩
    · by_cases n1 : 1099511627776 < now
      · skip
        go_enter Try.func6, Try.ntmps6
        go_wp2_with fail
        refine HLG.out.mono ?_
        rintro e w1 ⟨rfl, k1⟩
        have K1 := hid k1
        clear k1
        go_wp2_with fail
        refine (awake_any _).mono ?_
        rintro e w99 ⟨rfl, k99⟩
        have K99 := hid ((K1.out).step k99 (by simp))
        clear k99
        go_wp2_with fail
        go_ret
        exact ⟨rfl, K99.out.bel⟩
      · have n2 : 0 ≤ now := by omega
        have n3 : now ≤ 1099511627776 := by omega
        by_cases hc : newC idle abs = 0
        · have HNW := hid (fun wq (k : Kept [] w wq) => new_st k hc)
          clear hc
          go_enter Try.func6, Try.ntmps6
          go_wp2_with fail
          refine HLG.out.mono ?_
          rintro e w1 ⟨rfl, k1⟩
          have K1 := hid k1
          clear k1
          go_wp2_with fail
          refine (HNW.out _ K1.out).mono ?_
          rintro e w2 ⟨sb, mb, rfl, h2⟩
          have H2 := hid h2.free
          clear h2 HNW
          go_wp2_with fail
          go_loopw [11] (fun i wr => ∃ k : Nat, k ≤ l.length ∧ i = .int .i64 k ∧ St w wr sb mb (lim idle) (lim abs) (runU (lim idle) (lim abs) (l.take k)) [] w2) (fun i _ => l.length - (intOf i).toNat)
          case atStart => exact ⟨0, Nat.zero_le _, rfl, H2.out⟩
          case round =>
            obtain ⟨k, hk, rfl, hst⟩ := hrel
            have HST := hid hst
            clear hst H2
            by_cases hlt : k < l.length
            · obtain ⟨b', off, rfl, hb, hc, hl1⟩ := (H.out.keptN HST.out.kept).get hlt
              have hb1 : (0 : Int) ≤ k := by omega
              have hb2 : (k : Int) < l.length := by omega
              have HSO := hid (HSM.out _ (List.getElem_mem hlt))
              have HN := hid (runU_snoc (lim idle) (lim abs) l k hlt)
              have HL1 := hid hl1
              clear hl1
              generalize l[k] = o at *
              obtain ⟨d0, d1, d2, d3, d4, d5, d6, d7⟩ := hc
              have HD := hid (do_st HST.out o HSO.out HL1.out)
              go_wp2_with fail
              refine HD.out.mono ?_
              rintro e w3 ⟨⟨a3, c3, rfl, _, _⟩, h3⟩
              have H3 := hid h3
              clear h3
              go_wp2_with fail
              go_roundw
              case rel => exact ⟨k + 1, by omega, by go_num, by rw [HN.out]; exact H3.out⟩
              case measure => simp [intOf]; omega
            · have HT := hid (List.take_of_length_le (l := l) (i := k) (by omega))
              rw [HT.out] at HST
              obtain ⟨U, HU⟩ : ∃ U, Hid (U = runU (lim idle) (lim abs) l) := ⟨_, hid rfl⟩
              rw [← HU.out] at HST
              have HG := hid HST.out.good
              clear HT
              go_wp2_with fail
              clear hlt hk
              go_loopw [12] (fun i wx => ∃ j : Nat, j ≤ l.length ∧ i = .int .i64 j ∧ St w wx sb mb (lim idle) (lim abs) U [] w2) (fun i _ => l.length - (intOf i).toNat)
              case atStart => exact ⟨0, Nat.zero_le _, rfl, HST.out⟩
              case round =>
                clear HST
                obtain ⟨j, hj, rfl, hst⟩ := hrel
                have HST := hid hst
                clear hst
                by_cases hlt : j < l.length
                · obtain ⟨b', off, rfl, hb, hc, hl1⟩ := (H.out.keptN HST.out.kept).get hlt
                  have hb1 : (0 : Int) ≤ j := by omega
                  have hb2 : (j : Int) < l.length := by omega
                  have HSO := hid (HSM.out _ (List.getElem_mem hlt))
                  clear hl1
                  generalize l[j] = o at *
                  have d2 := hc.c2
                  clear hc
                  by_cases hz : findC U o.id now = 0
                  · obtain ⟨x, hx, b1, b2, b3, b4, b5, b6, b7⟩ := bounded_ok HG.out n2 n3 hz
                    rw [lim_lim] at b1 b2
                    have HR := hid (show getR U o.id now = (o.id, x) by unfold getR; rw [if_pos hz, hx])
                    have HD := hid (get_st HST.out ⟨o.id.toArray⟩ HSO.out.ids.1 now hz HR.out)
                    have q1 : ¬ (max 0 (min idle 1099511627776) ≤ now - x.seen) := by rw [lim_mm]; omega
                    have q2 : ¬ (max 0 (min abs 1099511627776) ≤ now - x.started) := by rw [lim_mm]; omega
                    have q3 : ¬ (x.until_ ≤ now) := by omega
                    have q4 : ¬ (x.seen < x.started) := by omega
                    have q5 : ((x.proofs.length : Int) == 0) = false := by rw [beq_eq_false_iff_ne]; have : x.proofs.length ≠ 0 := fun e => b5 (List.length_eq_zero_iff.1 e); omega
                    clear hx hz b1 b2 b3 b5
                    go_wp2_with fail
                    refine HD.out.mono ?_
                    rintro e w3 ⟨pa3, pc3, ca3, cc3, rfl, _, _, _, _, k3⟩
                    have K3 := hid k3
                    clear k3
                    go_wp2_with fail
                    go_roundw
                    case rel => exact ⟨j + 1, by omega, by go_num, HST.out.keptN (K3.out.alloc _)⟩
                    case measure => simp [intOf]; omega
                  · have HR := hid (show getR U o.id now = ([], zs) by unfold getR; rw [if_neg hz])
                    have HD := hid (get_st HST.out ⟨o.id.toArray⟩ HSO.out.ids.1 now rfl HR.out)
                    have hzb : (findC U o.id now == 0) = false := by simpa using hz
                    change Hid (Calls Try.prog 13 _ wr fun e w' => Got wr w' e ([], zs) (findC U o.id now)) at HD
                    generalize findC U o.id now = c at *
                    clear hz
                    go_wp2_with fail
                    refine HD.out.mono ?_
                    rintro e w3 ⟨pa3, pc3, ca3, cc3, rfl, _, _, _, _, k3⟩
                    have K3 := hid k3
                    clear k3
                    go_wp2_with fail
                    go_roundw
                    case rel => exact ⟨j + 1, by omega, by go_num, HST.out.keptN (K3.out.alloc _)⟩
                    case measure => simp [intOf]; omega
                · go_wp2_with fail
                  refine (awake_any _).mono ?_
                  rintro e w99 ⟨rfl, k99⟩
                  have K99 := hid ((HST.out.kept).step k99 (by simp))
                  clear k99
                  go_wp2_with fail
                  go_ret
                  exact ⟨rfl, K99.out.bel⟩
        · have HNW := hid (fun wq => new_bad hc wq)
          have hcb : (newC idle abs != 0) = true := by simpa using hc
          generalize newC idle abs = c at *
          clear hc
          go_enter Try.func6, Try.ntmps6
          go_wp2_with fail
          refine HLG.out.mono ?_
          rintro e w1 ⟨rfl, k1⟩
          have K1 := hid k1
          clear k1
          go_wp2_with fail
          refine (HNW.out _).mono ?_
          rintro e w2 ⟨rfl, rfl⟩
          go_wp2_with fail
          refine (awake_any _).mono ?_
          rintro e w99 ⟨rfl, k99⟩
          have K99 := hid ((K1.out).step k99 (by simp))
          clear k99
          go_wp2_with fail
          go_ret
          exact ⟨rfl, K99.out.bel⟩
end Go.Proofs.Ytakccoiecmibcaa
