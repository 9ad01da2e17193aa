/- WorkflowOpens: the walk. Printed by gen_opens.py. -/
import Derived.Test.YtionejokdfgmhaaLawQ2
import Derived.Test.YtionejokdfgmhaaOnce
import Derived.Sort.Walk0
namespace Go.Proofs.Ytionejokdfgmhaa
open Go.RowKit Go.Maps

def eqI (i : Str) (x : Str) : Bool := x == i
theorem any_snoc (l : List Str) (p : Str → Bool) (k : Nat) (h : k < l.length) : (l.take (k + 1)).any p = ((l.take k).any p || p l[k]) := by
  rw [List.take_succ_eq_append_getElem h, List.any_append]; simp
theorem any_mem (l : List Str) (i : Str) : l.any (eqI i) = decide (i ∈ l) := by
  rw [Bool.eq_iff_iff, List.any_eq_true, decide_eq_true_eq]
  constructor
  · rintro ⟨y, hy, e⟩; unfold eqI at e; rw [← beq_iff_eq.1 e]; exact hy
  · intro h; exact ⟨i, h, by simp [eqI]⟩
theorem less_at {l : List Str} (h : l.Pairwise (fun x y => x < y)) (k : Nat) (hk : k + 1 < l.length) : Op.bytesLess l[k] l[k + 1] = true := by
  rw [bytesLess_eq, decide_eq_true_eq]
  exact List.pairwise_iff_getElem.1 h k (k + 1) (by omega) hk (by omega)

set_option maxHeartbeats 32000000 in
set_option maxRecDepth 100000 in
theorem opens_walk {w : World} (x : OpD) (hx : OpLists w x) {b : Option Addr} {cap2 : Nat} {m : List OpD} (h2 : OpsAt w b m) (g : ByteArray) (_hg : g.size ≤ maxLen) (t : Int) (_ht : (Lit.int .i64 t).wf = true) :
    Calls Try.prog 7 #[.agg #[.int .i64 x.kind, .string ⟨x.id.toArray⟩, .string ⟨x.name.toArray⟩, .string ⟨x.user.toArray⟩, .string ⟨x.by_.toArray⟩, .slice x.sa x.steps.length x.sc, .slice x.ga x.groups.length x.gc, .int .i64 x.until_, .int .i64 x.now], .slice b m.length cap2, .string g, .int .i64 t] w fun e w' => e = .returned (.bool true) ∧ Below w.heap.size w w' := by
  have hbx := heap_alloc_new w (.cells #[.int .i64 x.kind, .string ⟨x.id.toArray⟩, .string ⟨x.name.toArray⟩, .string ⟨x.user.toArray⟩, .string ⟨x.by_.toArray⟩, .slice x.sa x.steps.length x.sc, .slice x.ga x.groups.length x.gc, .int .i64 x.until_, .int .i64 x.now] 37 (0, 0))
  have hk0 := (Kept.refl [] w).alloc (.cells #[.int .i64 x.kind, .string ⟨x.id.toArray⟩, .string ⟨x.name.toArray⟩, .string ⟨x.user.toArray⟩, .string ⟨x.by_.toArray⟩, .slice x.sa x.steps.length x.sc, .slice x.ga x.groups.length x.gc, .int .i64 x.until_, .int .i64 x.now] 37 (0, 0))
  obtain ⟨w0, HW0⟩ : ∃ w0, Hid (w0 = w.alloc (.cells #[.int .i64 x.kind, .string ⟨x.id.toArray⟩, .string ⟨x.name.toArray⟩, .string ⟨x.user.toArray⟩, .string ⟨x.by_.toArray⟩, .slice x.sa x.steps.length x.sc, .slice x.ga x.groups.length x.gc, .int .i64 x.until_, .int .i64 x.now] 37 (0, 0))) := ⟨_, hid rfl⟩
  rw [← HW0.out] at hbx hk0
  have HK0 := hid hk0
  have HX := hid hx
  have HCX := hid (fun wq (k : Kept [] w0 wq) => let hb := k.at hbx (by simp)
    And.intro (show wq.cell? ⟨w.heap.size, 0, none⟩ = some (.int .i64 x.kind) by rw [cell_at hb]; rfl) (And.intro (show wq.cell? ⟨w.heap.size, 1, none⟩ = some (.string ⟨x.id.toArray⟩) by rw [cell_at hb]; rfl) (And.intro (show wq.cell? ⟨w.heap.size, 2, none⟩ = some (.string ⟨x.name.toArray⟩) by rw [cell_at hb]; rfl) (And.intro (show wq.cell? ⟨w.heap.size, 3, none⟩ = some (.string ⟨x.user.toArray⟩) by rw [cell_at hb]; rfl) (And.intro (show wq.cell? ⟨w.heap.size, 4, none⟩ = some (.string ⟨x.by_.toArray⟩) by rw [cell_at hb]; rfl) (And.intro (show wq.cell? ⟨w.heap.size, 5, none⟩ = some (.slice x.sa x.steps.length x.sc) by rw [cell_at hb]; rfl) (And.intro (show wq.cell? ⟨w.heap.size, 6, none⟩ = some (.slice x.ga x.groups.length x.gc) by rw [cell_at hb]; rfl) (And.intro (show wq.cell? ⟨w.heap.size, 7, none⟩ = some (.int .i64 x.until_) by rw [cell_at hb]; rfl) (show wq.cell? ⟨w.heap.size, 8, none⟩ = some (.int .i64 x.now) by rw [cell_at hb]; rfl)))))))))
  have H2 := hid h2
  have hmf := h2.cells.few
  unfold maxLen at hmf
  have HLB := hid (fun wq (k : Kept [] w0 wq) => long_any (cap := cap2) (h2.keptN (hk0.step k (by simp))) 16)
  clear h2 hx hbx hk0
  cases t2 : bigB x
  · have HSX := hid (small_of t2)
    have T2 := hid ((long_1 x).trans t2)
    clear t2
    cases t1 : longB 16 m
    · rw [t1] at HLB
      have HSM := hid (long_no t1).2
      clear t1
      by_cases t3 : 300 < g.size
      · skip
        go_enter Try.func7, Try.ntmps7
        go_wp2_with fail
        rw [← HW0.out]
        refine (live_any w0).mono ?_
        rintro e w1 ⟨rfl, k1⟩
        have K1 := hid k1
        clear k1
        obtain ⟨d0, d1, d2, d3, d4, d5, d6, d7, d8⟩ := HCX.out _ K1.out
        go_wp2_with fail
        refine (long_one x (HX.out.keptN (HK0.out.step K1.out (by simp))) 1 T2.out).mono ?_
        rintro e w2 ⟨rfl, k2⟩
        have K2 := hid (K1.out.step k2 (by simp))
        clear k2 d0 d1 d2 d3 d4 d5 d6 d7 d8
        go_wp2_with fail
        refine (HLB.out _ K2.out).mono ?_
        rintro e w3 ⟨rfl, k3⟩
        have K3 := hid (K2.out.step k3 (by simp))
        clear k3
        go_wp2_with fail
        go_ret
        exact ⟨rfl, (HK0.out.step K3.out (by simp)).bel⟩
      · obtain ⟨C, HC⟩ : ∃ C, Hid (startC [] x.id x.name x.user x.by_ x.steps x.until_ x.now = C) := ⟨_, hid rfl⟩
        obtain ⟨U0, HU0⟩ : ∃ U0, Hid (startU [] x.id x.name x.user x.by_ x.steps x.until_ x.now = U0) := ⟨_, hid rfl⟩
        by_cases hc : C = 0
        · subst hc
          obtain ⟨y0, HY0⟩ : ∃ y0, Hid (Has U0 x y0) := ⟨_, hid (by rw [← HU0.out]; exact Has.start HC.out)⟩
          go_enter Try.func7, Try.ntmps7
          go_wp2_with fail
          rw [← HW0.out]
          refine (live_any w0).mono ?_
          rintro e w1 ⟨rfl, k1⟩
          have K1 := hid k1
          clear k1
          obtain ⟨d0, d1, d2, d3, d4, d5, d6, d7, d8⟩ := HCX.out _ K1.out
          go_wp2_with fail
          refine (long_one x (HX.out.keptN (HK0.out.step K1.out (by simp))) 1 T2.out).mono ?_
          rintro e w2 ⟨rfl, k2⟩
          have K2 := hid (K1.out.step k2 (by simp))
          clear k2 d0 d1 d2 d3 d4 d5 d6 d7 d8
          go_wp2_with fail
          refine (HLB.out _ K2.out).mono ?_
          rintro e w3 ⟨rfl, k3⟩
          have K3 := hid (K2.out.step k3 (by simp))
          clear k3
          go_wp2_with fail
          refine (new_st K3.out w).mono ?_
          rintro e w4 ⟨wb, mb, rfl, h4⟩
          have H4 := hid h4
          clear h4
          obtain ⟨d0, d1, d2, d3, d4, d5, d6, d7, d8⟩ := HCX.out _ H4.out.kept
          go_wp2_with fail
          refine (start_st (cap := x.sc) H4.out ⟨x.id.toArray⟩ ⟨x.name.toArray⟩ ⟨x.user.toArray⟩ ⟨x.by_.toArray⟩ HSX.out.ids.1 HSX.out.ids.2.1 HSX.out.ids.2.2.1 HSX.out.ids.2.2.2 ((HX.out.keptN (HK0.out.step H4.out.kept (by simp))).1) HSX.out.short x.until_ x.now (c := 0) HC.out).mono ?_
          rintro e w5 ⟨rfl, h5⟩
          have H5 := hid (show St w0 w5 wb mb (startU [] x.id x.name x.user x.by_ x.steps x.until_ x.now) ⟨w, []⟩ from h5)
          rw [HU0.out] at H5
          clear h5 H4 d0 d1 d2 d3 d4 d5 d6 d7 d8
          go_wp2_with fail
          go_loopw [50] (fun i wr => ∃ (k : Nat) (y : Proc), k ≤ m.length ∧ i = .int .i64 k ∧ St w0 wr wb mb (run7 U0 (m.take k)) ⟨w, []⟩ ∧ Has (run7 U0 (m.take k)) x y) (fun i _ => m.length - (intOf i).toNat)
          case atStart => exact ⟨0, y0, Nat.zero_le _, rfl, H5.out, HY0.out⟩
          case round =>
            obtain ⟨k, y, hk, rfl, hst, hy⟩ := hrel
            have HST := hid hst
            have HY := hid hy
            clear hst hy H5 HY0
            by_cases hlt : k < m.length
            · obtain ⟨b', off, rfl, hb, hc, hl1⟩ := (H2.out.keptN (HK0.out.step HST.out.kept (by simp))).get hlt
              have hb1 : (0 : Int) ≤ k := by omega
              have hb2 : (k : Int) < m.length := by omega
              have HSO := hid (HSM.out _ (List.getElem_mem hlt))
              have HN := hid (run7_snoc U0 m k hlt)
              have HL1 := hid hl1
              clear hl1
              generalize m[k] = o at *
              obtain ⟨d0, d1, d2, d3, d4, d5, d6, d7, d8⟩ := hc
              unfold sV at d1 d2 d3 d4
              by_cases h7 : o.kind = 7
              · have h7b : (o.kind != 7) = false := by simp [h7]
                have HN2 := hid (show run7 U0 (m.take (k + 1)) = run7 U0 (m.take k) by rw [HN.out, if_pos h7])
                clear h7 d1 d2 d3 d4 d5 d6 d7 d8
                go_wp2_with fail
                go_roundw
                case rel => exact ⟨k + 1, y, by omega, by go_num, by rw [HN2.out]; exact HST.out, by rw [HN2.out]; exact HY.out⟩
                case measure => simp [intOf]; omega
              · have h7b : (o.kind != 7) = true := by simpa using h7
                have HN2 := hid (show run7 U0 (m.take (k + 1)) = doU (run7 U0 (m.take k)) o by rw [HN.out, if_neg h7])
                have HYN := hid (HY.out.next o (fun h => absurd h h7))
                clear h7
                have HD := hid (do_st HST.out o HSO.out HL1.out)
                go_wp2_with fail
                refine HD.out.mono ?_
                rintro e w7 ⟨⟨a7, c7, rfl, s7, n7⟩, h7⟩
                have H7 := hid h7
                clear h7
                go_wp2_with fail
                go_roundw
                case rel => exact ⟨k + 1, _, by omega, by go_num, by rw [HN2.out]; exact H7.out, by rw [HN2.out]; exact HYN.out⟩
                case measure => simp [intOf]; omega
            · have HTK := hid (List.take_of_length_le (l := m) (i := k) (by omega))
              rw [HTK.out] at HST HY
              obtain ⟨U, HU⟩ : ∃ U, Hid (run7 U0 m = U) := ⟨_, hid rfl⟩
              rw [HU.out] at HST HY
              have HR := hid (stR_at (now := t) HY.out.look)
              obtain ⟨O, HO⟩ : ∃ O, Hid (openL U g.data.toList t = O) := ⟨_, hid rfl⟩
              have HMEM := hid (open_mem HY.out.uniq HY.out.look g.data.toList t)
              have HSTR := hid (open_strict HY.out.uniq g.data.toList t)
              rw [HO.out] at HMEM HSTR
              obtain ⟨d0, d1, d2, d3, d4, d5, d6, d7, d8⟩ := HCX.out _ HST.out.kept
              go_wp2_with fail
              refine (state_st HST.out ⟨x.id.toArray⟩ HSX.out.ids.1 t (r := (stS y (lim t), y.step)) HR.out).mono ?_
              rintro e w8 ⟨rfl, k8⟩
              have H8 := hid (HST.out.keptN k8)
              clear k8 d0 d1 d2 d3 d4 d5 d6 d7 d8
              go_wp2_with fail
              refine (open_st H8.out g t HO.out).mono ?_
              rintro e w9 ⟨a9, c9, rfl, s9, n9, k9⟩
              have H9 := hid (H8.out.keptN k9)
              have HS9 := hid s9
              have hof := s9.few
              unfold maxLen at hof
              clear s9 n9 k9
              go_wp2_with fail
              skip
              go_loopw [14, 80] (fun v i wx => ∃ (j : Nat), j ≤ O.length ∧ i = .int .i64 j ∧ v = .bool ((O.take j).any (eqI x.id)) ∧ Kept [] w9 wx) (fun _ i _ => O.length - (intOf i).toNat)
              case atStart => exact ⟨0, Nat.zero_le _, rfl, rfl, Kept.refl _ _⟩
              case round =>
                obtain ⟨j, hj, rfl, rfl, hkx⟩ := hrel
                have HKX := hid hkx
                clear hkx
                have K0X := hid (H9.out.kept.step HKX.out (by simp))
                obtain ⟨d0, d1, d2, d3, d4, d5, d6, d7, d8⟩ := HCX.out _ K0X.out
                clear d0 d2 d3 d4 d6 d7 d8
                by_cases hjl : j < O.length
                · obtain ⟨b9, off9, rfl, hb9, hc9⟩ := StrsAt.get (HS9.out.keptN HKX.out) hjl
                  unfold sV at hc9
                  have hj1 : (0 : Int) ≤ j := by omega
                  have hj2 : (j : Int) < O.length := by omega
                  have HAN := hid (any_snoc O (eqI x.id) j hjl)
                  have HE := hid (show eqI x.id O[j] = (O[j] == x.id) from rfl)
                  obtain ⟨A, HA⟩ : ∃ A, Hid ((O.take j).any (eqI x.id) = A) := ⟨_, hid rfl⟩
                  rw [HA.out] at HAN ⊢
                  obtain ⟨E, he⟩ : ∃ E, (O[j] == x.id) = E := ⟨_, rfl⟩
                  rw [HE.out, he] at HAN
                  cases A
                  · skip
                    cases E
                    · skip
                      by_cases hj0 : 0 < j
                      · obtain ⟨i, rfl⟩ : ∃ i, j = i + 1 := ⟨j - 1, by omega⟩
                        obtain ⟨b8, off8, e8, hb8, hc8⟩ := StrsAt.get (HS9.out.keptN HKX.out) (i := i) (by omega)
                        injection e8 with e8; injection e8 with e8 e8'; subst e8; subst e8'
                        unfold sV at hc8
                        have hls := less_at HSTR.out i (by omega)
                        have hi1 : (0 : Int) ≤ i := by omega
                        have hi2 : (i : Int) < O.length := by omega
                        skip
                        go_wp2_with fail
                        go_quiet (fail)
                        go_wp2_with fail
                        go_quiet (fail)
                        go_wp2_with fail
                        go_roundw
                        case rel => exact ⟨i + 1 + 1, by omega, by go_num, by rw [HAN.out]; rfl, HKX.out.drewN _⟩
                        case measure => simp [intOf]; omega
                      · have hj0' : decide ((0 : Int) < j) = false := by rw [decide_eq_false_iff_not]; omega
                        go_wp2_with fail
                        go_quiet (fail)
                        go_wp2_with fail
                        go_quiet (fail)
                        go_wp2_with fail
                        go_roundw
                        case rel => exact ⟨j + 1, by omega, by go_num, by rw [HAN.out]; rfl, HKX.out.drewN _⟩
                        case measure => simp [intOf]; omega
                    · skip
                      by_cases hj0 : 0 < j
                      · obtain ⟨i, rfl⟩ : ∃ i, j = i + 1 := ⟨j - 1, by omega⟩
                        obtain ⟨b8, off8, e8, hb8, hc8⟩ := StrsAt.get (HS9.out.keptN HKX.out) (i := i) (by omega)
                        injection e8 with e8; injection e8 with e8 e8'; subst e8; subst e8'
                        unfold sV at hc8
                        have hls := less_at HSTR.out i (by omega)
                        have hi1 : (0 : Int) ≤ i := by omega
                        have hi2 : (i : Int) < O.length := by omega
                        skip
                        go_wp2_with fail
                        go_quiet (fail)
                        go_wp2_with fail
                        go_quiet (fail)
                        go_wp2_with fail
                        go_roundw
                        case rel => exact ⟨i + 1 + 1, by omega, by go_num, by rw [HAN.out]; rfl, HKX.out.drewN _⟩
                        case measure => simp [intOf]; omega
                      · have hj0' : decide ((0 : Int) < j) = false := by rw [decide_eq_false_iff_not]; omega
                        go_wp2_with fail
                        go_quiet (fail)
                        go_wp2_with fail
                        go_quiet (fail)
                        go_wp2_with fail
                        go_roundw
                        case rel => exact ⟨j + 1, by omega, by go_num, by rw [HAN.out]; rfl, HKX.out.drewN _⟩
                        case measure => simp [intOf]; omega
                  · skip
                    by_cases hj0 : 0 < j
                    · obtain ⟨i, rfl⟩ : ∃ i, j = i + 1 := ⟨j - 1, by omega⟩
                      obtain ⟨b8, off8, e8, hb8, hc8⟩ := StrsAt.get (HS9.out.keptN HKX.out) (i := i) (by omega)
                      injection e8 with e8; injection e8 with e8 e8'; subst e8; subst e8'
                      unfold sV at hc8
                      have hls := less_at HSTR.out i (by omega)
                      have hi1 : (0 : Int) ≤ i := by omega
                      have hi2 : (i : Int) < O.length := by omega
                      skip
                      go_wp2_with fail
                      go_quiet (fail)
                      go_wp2_with fail
                      go_quiet (fail)
                      go_wp2_with fail
                      go_roundw
                      case rel => exact ⟨i + 1 + 1, by omega, by go_num, by rw [HAN.out]; rfl, HKX.out.drewN _⟩
                      case measure => simp [intOf]; omega
                    · have hj0' : decide ((0 : Int) < j) = false := by rw [decide_eq_false_iff_not]; omega
                      go_wp2_with fail
                      go_quiet (fail)
                      go_wp2_with fail
                      go_quiet (fail)
                      go_wp2_with fail
                      go_roundw
                      case rel => exact ⟨j + 1, by omega, by go_num, by rw [HAN.out]; rfl, HKX.out.drewN _⟩
                      case measure => simp [intOf]; omega
                · have HTK := hid (List.take_of_length_le (l := O) (i := j) (by omega))
                  rw [HTK.out, any_mem]
                  have HST2 := hid HY.out.steps
                  have hsl : y.steps.length = x.steps.length := by rw [HST2.out]
                  have hsb := HSX.out.steps
                  have HINV := hid HY.out.inv
                  have HOB := hid (show openB y g.data.toList (lim t) = (stS y (lim t) == sPending && grpS y == g.data.toList) from rfl)
                  obtain ⟨R, hR⟩ : ∃ R, stS y (lim t) = R := ⟨_, rfl⟩
                  rw [hR] at HOB ⊢
                  cases e1 : (R == sPending)
                  · have HD := hid (show decide (x.id ∈ O) = false by rw [decide_eq_false_iff_not, HMEM.out, HOB.out, e1]; simp)
                    rw [HD.out]
                    unfold sPending at e1
                    clear hR
                    go_wp2_with fail
                    go_ret
                    exact ⟨rfl, (HK0.out.step K0X.out (by simp)).bel⟩
                  · have hlt2 : y.step < y.steps.length := by have h1 := (st_pending (hR.trans (beq_iff_eq.1 e1))).1; have h2 := HINV.out.step; omega
                    have hlt3 : y.step < x.steps.length := by omega
                    obtain ⟨b7, off7, e7, hb7, hc7, hc7'⟩ := StpsAt.get (HX.out.keptN (HK0.out.step K0X.out (by simp))).1 hlt3
                    unfold sV at hc7
                    rw [e7] at d5
                    have HG := hid (show grpS y = x.steps[y.step].1 by unfold grpS; rw [HST2.out, List.getElem?_eq_getElem hlt3]; rfl)
                    have hy1 : (0 : Int) ≤ y.step := by omega
                    have hy2 : (y.step : Int) < x.steps.length := by omega
                    obtain ⟨G, hG⟩ : ∃ G, x.steps[y.step].1 = G := ⟨_, rfl⟩
                    rw [hG] at hc7 HG
                    rw [HG.out] at HOB
                    cases e2 : (G == g.data.toList)
                    · have HD := hid (show decide (x.id ∈ O) = false by rw [decide_eq_false_iff_not, HMEM.out, HOB.out, e2]; simp)
                      rw [HD.out]
                      unfold sPending at e1
                      rw [← ByteArray.toList_eq] at e2
                      clear hR hG hc7' hlt2 hlt3
                      go_wp2_with fail
                      go_ret
                      exact ⟨rfl, (HK0.out.step K0X.out (by simp)).bel⟩
                    · have HD := hid (show decide (x.id ∈ O) = true by rw [decide_eq_true_eq, HMEM.out, HOB.out, e1, e2]; rfl)
                      rw [HD.out]
                      unfold sPending at e1
                      rw [← ByteArray.toList_eq] at e2
                      clear hR hG hc7' hlt2 hlt3
                      go_wp2_with fail
                      go_ret
                      exact ⟨rfl, (HK0.out.step K0X.out (by simp)).bel⟩
        · have hcb : (C != 0) = true := by simpa using hc
          clear hc
          go_enter Try.func7, Try.ntmps7
          go_wp2_with fail
          rw [← HW0.out]
          refine (live_any w0).mono ?_
          rintro e w1 ⟨rfl, k1⟩
          have K1 := hid k1
          clear k1
          obtain ⟨d0, d1, d2, d3, d4, d5, d6, d7, d8⟩ := HCX.out _ K1.out
          go_wp2_with fail
          refine (long_one x (HX.out.keptN (HK0.out.step K1.out (by simp))) 1 T2.out).mono ?_
          rintro e w2 ⟨rfl, k2⟩
          have K2 := hid (K1.out.step k2 (by simp))
          clear k2 d0 d1 d2 d3 d4 d5 d6 d7 d8
          go_wp2_with fail
          refine (HLB.out _ K2.out).mono ?_
          rintro e w3 ⟨rfl, k3⟩
          have K3 := hid (K2.out.step k3 (by simp))
          clear k3
          go_wp2_with fail
          refine (new_st K3.out w).mono ?_
          rintro e w4 ⟨wb, mb, rfl, h4⟩
          have H4 := hid h4
          clear h4
          obtain ⟨d0, d1, d2, d3, d4, d5, d6, d7, d8⟩ := HCX.out _ H4.out.kept
          go_wp2_with fail
          refine (start_st (cap := x.sc) H4.out ⟨x.id.toArray⟩ ⟨x.name.toArray⟩ ⟨x.user.toArray⟩ ⟨x.by_.toArray⟩ HSX.out.ids.1 HSX.out.ids.2.1 HSX.out.ids.2.2.1 HSX.out.ids.2.2.2 ((HX.out.keptN (HK0.out.step H4.out.kept (by simp))).1) HSX.out.short x.until_ x.now (c := C) HC.out).mono ?_
          rintro e w5 ⟨rfl, h5⟩
          have H5 := hid (show St w0 w5 wb mb (startU [] x.id x.name x.user x.by_ x.steps x.until_ x.now) ⟨w, []⟩ from h5)
          rw [HU0.out] at H5
          clear h5 H4 d0 d1 d2 d3 d4 d5 d6 d7 d8
          go_wp2_with fail
          go_ret
          exact ⟨rfl, (HK0.out.step H5.out.kept (by simp)).bel⟩
    · rw [t1] at HLB
      clear t1
      go_enter Try.func7, Try.ntmps7
      go_wp2_with fail
      rw [← HW0.out]
      refine (live_any w0).mono ?_
      rintro e w1 ⟨rfl, k1⟩
      have K1 := hid k1
      clear k1
      obtain ⟨d0, d1, d2, d3, d4, d5, d6, d7, d8⟩ := HCX.out _ K1.out
      go_wp2_with fail
      refine (long_one x (HX.out.keptN (HK0.out.step K1.out (by simp))) 1 T2.out).mono ?_
      rintro e w2 ⟨rfl, k2⟩
      have K2 := hid (K1.out.step k2 (by simp))
      clear k2 d0 d1 d2 d3 d4 d5 d6 d7 d8
      go_wp2_with fail
      refine (HLB.out _ K2.out).mono ?_
      rintro e w3 ⟨rfl, k3⟩
      have K3 := hid (K2.out.step k3 (by simp))
      clear k3
      go_wp2_with fail
      go_ret
      exact ⟨rfl, (HK0.out.step K3.out (by simp)).bel⟩
  · have T2 := hid ((long_1 x).trans t2)
    clear t2
    go_enter Try.func7, Try.ntmps7
    go_wp2_with fail
    rw [← HW0.out]
    refine (live_any w0).mono ?_
    rintro e w1 ⟨rfl, k1⟩
    have K1 := hid k1
    clear k1
    obtain ⟨d0, d1, d2, d3, d4, d5, d6, d7, d8⟩ := HCX.out _ K1.out
    go_wp2_with fail
    refine (long_one x (HX.out.keptN (HK0.out.step K1.out (by simp))) 1 T2.out).mono ?_
    rintro e w2 ⟨rfl, k2⟩
    have K2 := hid (K1.out.step k2 (by simp))
    clear k2 d0 d1 d2 d3 d4 d5 d6 d7 d8
    go_wp2_with fail
    go_ret
    exact ⟨rfl, (HK0.out.step K2.out (by simp)).bel⟩
end Go.Proofs.Ytionejokdfgmhaa
