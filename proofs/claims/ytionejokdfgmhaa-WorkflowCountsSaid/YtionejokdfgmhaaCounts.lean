/- WorkflowCounts: the walk. Printed by gen_counts.py. -/
import Derived.Test.YtionejokdfgmhaaLawQ2
import Derived.Test.YtionejokdfgmhaaOnce
namespace Go.Proofs.Ytionejokdfgmhaa
open Go.RowKit Go.Maps

theorem St.anchor {w0 w : World} {wb mb : Nat} {U : Wfs} {p : Prot} (h : St w0 w wb mb U p) : St w0 w wb mb U ⟨w, p.bl⟩ := by
  obtain ⟨X, h1, e, k0, hd, hp⟩ := h.st
  exact ⟨X, h1, e, k0, hd, fun i hi => ⟨(hp i hi).1, (hp i hi).2.1, rfl⟩⟩
/-- The protected blocks are written, or replaced by new ones. -/
theorem St.write {w0 w w' wp : World} {wb mb : Nat} {U : Wfs} {bl bl' : List Nat} (h : St w0 w wb mb U ⟨wp, bl⟩) (k : Kept bl w w') (hb : ∀ i ∈ bl, w0.heap.size ≤ i) (hn : ∀ i ∈ bl', i ∈ bl ∨ w.heap.size ≤ i) (hlt : ∀ i ∈ bl', i < w'.heap.size) : St w0 w' wb mb U ⟨w', bl'⟩ := by
  obtain ⟨X, h1, e, k0, hd, hp⟩ := h.st
  refine ⟨X, h1.kept k (fun i hi hm => (hp i hm).2.1 hi), e, k0.trans k (fun i hi => .inr (hb i hi)), hd, fun i hi => ⟨hlt i hi, fun hm => ?_, rfl⟩⟩
  rcases hn i hi with e | e
  · exact (hp i e).2.1 hm
  · have := h1.lt i hm; omega
theorem row_pin {w w' : World} {e : TypeId} {sz : Nat} {a : Option Addr} {n cap : Nat} {xs : List Value} (h : w.ownsRow 0 e sz (.slice a n cap) n xs) (hp : ∀ i ∈ fp a, w'.heap[i]? = w.heap[i]?) : w'.ownsRow 0 e sz (.slice a n cap) n xs := by
  refine ⟨h.1, ?_⟩
  rcases h.2 with hn | ⟨g, cap', cur, hv, hb, hg, rest⟩
  · exact .inl hn
  · have hv' := hv
    injection hv with e1
    exact .inr ⟨g, cap', cur, hv', hb, (hp g (by rw [e1]; simp [fp])).trans hg, rest⟩
theorem St.row {w0 w wp : World} {wb mb : Nat} {U : Wfs} {a : Option Addr} (h : St w0 w wb mb U ⟨wp, fp a⟩) {e : TypeId} {sz n cap : Nat} {xs : List Value} (hr : wp.ownsRow 0 e sz (.slice a n cap) n xs) : w.ownsRow 0 e sz (.slice a n cap) n xs := by
  obtain ⟨X, _, _, _, _, hp⟩ := h.st
  exact row_pin hr (fun i hi => (hp i hi).2.2)
theorem row_lt {w : World} {e : TypeId} {sz : Nat} {a : Option Addr} {n cap : Nat} {xs : List Value} (h : w.ownsRow 0 e sz (.slice a n cap) n xs) : ∀ i ∈ fp a, i < w.heap.size := fun i hi => by obtain ⟨cur, hc⟩ := row_blk h i hi; exact lt_of_heap hc
theorem none_has {l : List Str} {s : Str} (h : hasS l s = false) (k : Nat) (hk : k < l.length) : (l[k] == s) = false := by
  unfold hasS at h
  have := List.any_eq_false.1 h l[k] (List.getElem_mem hk)
  unfold eqS at this
  simpa using this
theorem den_no {x : Proc} {s : Str} (h : denB x s = false) : (s == x.user) = false ∧ (s == x.by_) = false := by
  unfold denB at h
  simpa [Bool.or_eq_false_iff] using h

set_option maxHeartbeats 64000000 in
set_option maxRecDepth 100000 in
theorem counts_walk {w : World} (x : OpD) (hx : OpLists w x) {b : Option Addr} {cap2 : Nat} {m : List OpD} (h2 : OpsAt w b m) :
    Calls Try.prog 4 #[.agg #[.int .i64 x.kind, .string ⟨x.id.toArray⟩, .string ⟨x.name.toArray⟩, .string ⟨x.user.toArray⟩, .string ⟨x.by_.toArray⟩, .slice x.sa x.steps.length x.sc, .slice x.ga x.groups.length x.gc, .int .i64 x.until_, .int .i64 x.now], .slice b m.length cap2] w fun e w' => e = .returned (.bool true) ∧ Below w.heap.size w w' := by
  have hbx := heap_alloc_new w (.cells #[.int .i64 x.kind, .string ⟨x.id.toArray⟩, .string ⟨x.name.toArray⟩, .string ⟨x.user.toArray⟩, .string ⟨x.by_.toArray⟩, .slice x.sa x.steps.length x.sc, .slice x.ga x.groups.length x.gc, .int .i64 x.until_, .int .i64 x.now] 37 (0, 0))
  have hk0 := (Kept.refl [] w).alloc (.cells #[.int .i64 x.kind, .string ⟨x.id.toArray⟩, .string ⟨x.name.toArray⟩, .string ⟨x.user.toArray⟩, .string ⟨x.by_.toArray⟩, .slice x.sa x.steps.length x.sc, .slice x.ga x.groups.length x.gc, .int .i64 x.until_, .int .i64 x.now] 37 (0, 0))
  obtain ⟨w0, HW0⟩ : ∃ w0, Hid (w0 = w.alloc (.cells #[.int .i64 x.kind, .string ⟨x.id.toArray⟩, .string ⟨x.name.toArray⟩, .string ⟨x.user.toArray⟩, .string ⟨x.by_.toArray⟩, .slice x.sa x.steps.length x.sc, .slice x.ga x.groups.length x.gc, .int .i64 x.until_, .int .i64 x.now] 37 (0, 0))) := ⟨_, hid rfl⟩
  rw [← HW0.out] at hbx hk0
  have HK0 := hid hk0
  have HX := hid hx
  have HCX := hid (fun wq (k : Kept [] w0 wq) => let hb := k.at hbx (by simp)
    And.intro (show wq.cell? ⟨w.heap.size, 0, none⟩ = some (.int .i64 x.kind) by rw [cell_at hb]; rfl) (And.intro (show wq.cell? ⟨w.heap.size, 1, none⟩ = some (.string ⟨x.id.toArray⟩) by rw [cell_at hb]; rfl) (And.intro (show wq.cell? ⟨w.heap.size, 2, none⟩ = some (.string ⟨x.name.toArray⟩) by rw [cell_at hb]; rfl) (And.intro (show wq.cell? ⟨w.heap.size, 3, none⟩ = some (.string ⟨x.user.toArray⟩) by rw [cell_at hb]; rfl) (And.intro (show wq.cell? ⟨w.heap.size, 4, none⟩ = some (.string ⟨x.by_.toArray⟩) by rw [cell_at hb]; rfl) (And.intro (show wq.cell? ⟨w.heap.size, 5, none⟩ = some (.slice x.sa x.steps.length x.sc) by rw [cell_at hb]; rfl) (And.intro (show wq.cell? ⟨w.heap.size, 6, none⟩ = some (.slice x.ga x.groups.length x.gc) by rw [cell_at hb]; rfl) (And.intro (show wq.cell? ⟨w.heap.size, 7, none⟩ = some (.int .i64 x.until_) by rw [cell_at hb]; rfl) (show wq.cell? ⟨w.heap.size, 8, none⟩ = some (.int .i64 x.now) by rw [cell_at hb]; rfl)))))))))
  have H2 := hid h2
  have hmf := h2.cells.few
  unfold maxLen at hmf
  have HLB := hid (fun wq (k : Kept [] w0 wq) => long_any (cap := cap2) (h2.keptN (hk0.step k (by simp))) 20)
  clear h2 hx hbx hk0
  cases t2 : bigB x
  · have HSX := hid (small_of t2)
    have T2 := hid ((long_1 x).trans t2)
    clear t2
    cases t1 : longB 20 m
    · rw [t1] at HLB
      have HSM := hid (long_no t1).2
      have hm20 : m.length ≤ 20 := by have := (long_no t1).1; omega
      clear t1
      obtain ⟨C, HC⟩ : ∃ C, Hid (startC [] x.id x.name x.user x.by_ x.steps x.until_ x.now = C) := ⟨_, hid rfl⟩
      obtain ⟨U0, HU0⟩ : ∃ U0, Hid (startU [] x.id x.name x.user x.by_ x.steps x.until_ x.now = U0) := ⟨_, hid rfl⟩
      by_cases hc : C = 0
      · subst hc
        have HCK := hid (chk_ok (start_new HC.out).2)
        have HY0 := hid (show Has U0 x (newX x.name x.user x.by_ x.steps x.until_) by rw [← HU0.out]; exact Has.start HC.out)
        have hst8 : x.steps.length ≤ 8 := HCK.out.2.1
        have HSB := hid (sumN_bd (fun s hs => (HCK.out.2.2 s hs).2.2))
        go_enter Try.func4, Try.ntmps4
        go_wp2_with fail
        rw [← HW0.out]
        refine (live_any w0).mono ?_
        rintro e w1 ⟨rfl, k1⟩
        have K1 := hid k1
        clear k1
        obtain ⟨d0, d1, d2, d3, d4, d5, d6, d7, d8⟩ := HCX.out _ K1.out
        go_wp2_with fail
        refine (long_one x (HX.out.keptN (HK0.out.step K1.out (by simp))) 1 T2.out).mono ?_
        rintro e w2 ⟨rfl, k2⟩
        have K2 := hid (K1.out.step k2 (by simp))
        clear k2 d0 d1 d2 d3 d4 d5 d6 d7 d8
        go_wp2_with fail
        refine (HLB.out _ K2.out).mono ?_
        rintro e w3 ⟨rfl, k3⟩
        have K3 := hid (K2.out.step k3 (by simp))
        clear k3
        go_wp2_with fail
        refine (new_st K3.out w).mono ?_
        rintro e w4 ⟨wb, mb, rfl, h4⟩
        have H4 := hid h4
        clear h4
        obtain ⟨d0, d1, d2, d3, d4, d5, d6, d7, d8⟩ := HCX.out _ H4.out.kept
        go_wp2_with fail
        refine (start_st (cap := x.sc) H4.out ⟨x.id.toArray⟩ ⟨x.name.toArray⟩ ⟨x.user.toArray⟩ ⟨x.by_.toArray⟩ HSX.out.ids.1 HSX.out.ids.2.1 HSX.out.ids.2.2.1 HSX.out.ids.2.2.2 ((HX.out.keptN (HK0.out.step H4.out.kept (by simp))).1) HSX.out.short x.until_ x.now (c := 0) HC.out).mono ?_
        rintro e w5 ⟨rfl, h5⟩
        have H5 := hid (show St w0 w5 wb mb (startU [] x.id x.name x.user x.by_ x.steps x.until_ x.now) ⟨w, []⟩ from h5)
        rw [HU0.out] at H5
        clear h5 H4 d0 d1 d2 d3 d4 d5 d6 d7 d8
        obtain ⟨d0, d1, d2, d3, d4, d5, d6, d7, d8⟩ := HCX.out _ H5.out.kept
        have HST5 := hid (HX.out.keptN (HK0.out.step H5.out.kept (by simp))).1
        clear d0 d1 d2 d3 d4 d6 d7 d8
        go_wp2_with fail
        go_loop [6, 45] (fun v i => ∃ k : Nat, k ≤ x.steps.length ∧ i = .int .i64 k ∧ v = .int .i64 (sumN (x.steps.take k) : Nat)) (fun _ i => x.steps.length - (intOf i).toNat)
        case atStart => exact ⟨0, Nat.zero_le _, rfl, rfl⟩
        case round =>
          obtain ⟨k, hk, rfl, rfl⟩ := hrel
          by_cases hlt : k < x.steps.length
          · obtain ⟨b4, off4, e4, hb4, hc0, hc1⟩ := StpsAt.get HST5.out hlt
            rw [e4] at d5
            have hb1 : (0 : Int) ≤ k := by omega
            have hb2 : (k : Int) < x.steps.length := by omega
            have HSN := hid (sumN_snoc x.steps k hlt)
            have HND := hid (HCK.out.2.2 _ (List.getElem_mem hlt))
            have hle := sumN_le x.steps k
            have hbd := HSB.out
            generalize x.steps[k] = s at *
            obtain ⟨S, HS⟩ : ∃ S, Hid (sumN (x.steps.take k) = S) := ⟨_, hid rfl⟩
            rw [HS.out] at HSN hle ⊢
            have hS : S ≤ 64 := by omega
            have hs1 : 1 ≤ s.2 := HND.out.2.1
            have hs2 : s.2 ≤ 8 := HND.out.2.2
            clear hle hbd hc0
            go_wp2_with fail
            go_round
            case rel => exact ⟨k + 1, by omega, by go_num, by rw [HSN.out]; congr 1; omega⟩
            case measure => simp [intOf]; omega
          · have HTS := hid (List.take_of_length_le (l := x.steps) (i := k) (by omega))
            rw [HTS.out]
            obtain ⟨N, HN⟩ : ∃ N, Hid (sumN x.steps = N) := ⟨_, hid rfl⟩
            rw [HN.out] at HSB ⊢
            have hN64 : N ≤ 64 := by have := HSB.out; omega
            clear d5
            go_wp2_with fail
            go_loopw [8, 59] (fun v i wr => ∃ (k : Nat) (y : Proc) (a : Option Addr) (c : Nat), k ≤ m.length ∧ i = .int .i64 k ∧ v = .slice a y.appr.length c ∧ wr.ownsRow 0 9 1 (.slice a y.appr.length c) y.appr.length (rowV encS y.appr) ∧ St w0 wr wb mb (run7 U0 (m.take k)) ⟨wr, fp a⟩ ∧ Has (run7 U0 (m.take k)) x y ∧ ∀ i ∈ fp a, w0.heap.size ≤ i) (fun _ i _ => m.length - (intOf i).toNat)
            case atStart => exact ⟨0, _, none, 0, Nat.zero_le _, rfl, rfl, World.ownsRow_nil _ _ _ _, H5.out.free _, HY0.out, by simp [fp]⟩
            case round =>
              obtain ⟨k, y, a, c, hk, rfl, rfl, hrow, hst, hy, hfa⟩ := hrel
              have HROW := hid hrow
              have HST := hid hst
              have HY := hid hy
              have HFA := hid hfa
              clear hrow hst hy hfa H5 HY0 HST5
              by_cases hlt : k < m.length
              · obtain ⟨b', off, rfl, hb, hc, hl1⟩ := (H2.out.keptN (HK0.out.step HST.out.kept (by simp))).get hlt
                have hb1 : (0 : Int) ≤ k := by omega
                have hb2 : (k : Int) < m.length := by omega
                have HSO := hid (HSM.out _ (List.getElem_mem hlt))
                have HNX := hid (run7_snoc U0 m k hlt)
                have HL1 := hid hl1
                have HOC := hid (fun wq (kq : Kept [] w0 wq) => ((H2.out.keptN (HK0.out.step kq (by simp))).get hlt))
                have HBL := hid hb
                clear hl1
                generalize m[k] = o at *
                obtain ⟨d0, d1, d2, d3, d4, d5, d6, d7, d8⟩ := hc
                unfold sV at d1 d2 d3 d4
                by_cases h7 : o.kind = 7
                · have h7b : (o.kind == 7) = true := by rw [beq_iff_eq]; exact h7
                  have HN2 := hid (show run7 U0 (m.take (k + 1)) = run7 U0 (m.take k) by rw [HNX.out, if_pos h7])
                  clear h7 d1 d2 d3 d4 d5 d6 d7 d8
                  go_wp2_with fail
                  go_roundw
                  case rel => exact ⟨k + 1, y, a, c, by omega, by go_num, rfl, HROW.out, by rw [HN2.out]; exact HST.out, by rw [HN2.out]; exact HY.out, HFA.out⟩
                  case measure => simp [intOf]; omega
                · have h7b : (o.kind == 7) = false := by rw [beq_eq_false_iff_ne]; exact h7
                  have HN2 := hid (show run7 U0 (m.take (k + 1)) = doU (run7 U0 (m.take k)) o by rw [HNX.out, if_neg h7])
                  have HYN := hid (HY.out.next o (fun h => absurd h h7))
                  obtain ⟨U, HU⟩ : ∃ U, Hid (run7 U0 (m.take k) = U) := ⟨_, hid rfl⟩
                  rw [HU.out] at HST HY HYN HN2
                  have HEA := hid (eff_appr (U := U) (x := y) (k := x.id) o)
                  have HD := hid (do_st HST.out o HSO.out HL1.out)
                  clear h7
                  go_wp2_with fail
                  refine HD.out.mono ?_
                  rintro e w7 ⟨⟨a7, c7, rfl, s7, n7⟩, h7⟩
                  have H7 := hid h7
                  clear h7
                  have hbr := heap_alloc_new w7 (.cells #[.string ⟨(doR U o).a.toArray⟩, .string ⟨(doR U o).b.toArray⟩, .slice a7 (doR U o).list.length c7, .int .i64 (doR U o).n, .int .i64 (doR U o).e] 33 (0, 0))
                  have HKA := hid ((Kept.refl [] w7).alloc (.cells #[.string ⟨(doR U o).a.toArray⟩, .string ⟨(doR U o).b.toArray⟩, .slice a7 (doR U o).list.length c7, .int .i64 (doR U o).n, .int .i64 (doR U o).e] 33 (0, 0)))
                  have H8 := hid (H7.out.keptN HKA.out)
                  obtain ⟨b2, off2, e2, hb2', hc2, _⟩ := HOC.out _ H8.out.kept
                  injection e2 with e2; injection e2 with e2 e2'; subst e2; subst e2'
                  obtain ⟨g0, g1, _, _, g4, _, _, _, _⟩ := hc2
                  obtain ⟨_, x1, _, x3, x4, _, _, _, _⟩ := HCX.out _ H8.out.kept
                  unfold sV at g1 g4
                  obtain ⟨w8, HW8⟩ : ∃ w8, Hid (w8 = w7.alloc (.cells #[.string ⟨(doR U o).a.toArray⟩, .string ⟨(doR U o).b.toArray⟩, .slice a7 (doR U o).list.length c7, .int .i64 (doR U o).n, .int .i64 (doR U o).e] 33 (0, 0))) := ⟨_, hid rfl⟩
                  rw [← HW8.out] at hbr H8 g0 g1 g4 x1 x3 x4
                  have r4 := cell_at hbr 4
                  simp at r4
                  unfold sV
                  clear d0 d1 d2 d3 d4 d5 d6 d7 d8 hbr hb2' s7 n7 HKA
                  go_wp2_with fail
                  rw [← HW8.out]
                  by_cases k2 : o.kind = 2
                  · have k2b : (o.kind != 2) = false := by simp [k2]
                    by_cases ki : o.id = x.id
                    · have kib : (o.id != x.id) = false := by simp [ki]
                      have HRE := hid (show (doR U o).e = apprC U o.id o.by_ o.groups o.now by unfold doR; rw [if_neg (by omega), if_pos k2])
                      rw [HRE.out] at r4
                      obtain ⟨CC, hCC⟩ : ∃ CC, apprC U o.id o.by_ o.groups o.now = CC := ⟨_, rfl⟩
                      rw [hCC] at r4 HRE HEA
                      have HCC := hid hCC
                      clear hCC
                      by_cases kc : CC = 0
                      · have kcb : (CC != 0) = false := by simp [kc]
                        have HAP := hid (appr_ok HY.out.look (by rw [← ki]; exact HCC.out.trans kc))
                        have HEQ := hid (show (effX U y o x.id).appr = y.appr ++ [o.by_] by rw [HEA.out, if_pos ⟨ki, k2, kc⟩])
                        obtain ⟨e1, e2⟩ := den_no HAP.out.2.1
                        rw [HY.out.user] at e1
                        rw [HY.out.by_] at e2
                        have HFEW := hid HY.out.inv.few
                        clear k2 kc
                        go_quiet (fail)
                        go_wp2_with fail
                        go_loop [112] (fun i => ∃ j : Nat, j ≤ y.appr.length ∧ i = .int .i64 j) (fun i => y.appr.length - (intOf i).toNat)
                        case atStart => exact ⟨0, Nat.zero_le _, rfl⟩
                        case round =>
                          obtain ⟨j, hj, rfl⟩ := hrel
                          by_cases hjl : j < y.appr.length
                          · obtain ⟨b9, off9, rfl, hb9, hc9⟩ := StrsAt.get (row_list encSOk ((H8.out.keptN ((Kept.refl [] w8).drewN nq)).row HROW.out)) hjl
                            unfold sV at hc9
                            have hj1 : (0 : Int) ≤ j := by omega
                            have hj2 : (j : Int) < y.appr.length := by omega
                            have hne := none_has HAP.out.2.2 j hjl
                            have hfw := HFEW.out
                            go_wp2_with fail
                            go_round
                            case rel => exact ⟨j + 1, by omega, by go_num⟩
                            case measure => simp [intOf]; omega
                          · have H9 := hid (H8.out.keptN ((Kept.refl [] w8).drewN nq))
                            obtain ⟨M, HM⟩ : ∃ M, Hid (M = y.appr ++ [o.by_]) := ⟨_, hid rfl⟩
                            have hfw := HFEW.out
                            have H10 := hid (H9.out.keptN ((Kept.refl [] (w8.drewN nq)).alloc (.cells #[.string ⟨o.by_.toArray⟩] 9 (0, 0))))
                            go_wp2_with (at_builtin; refine wp_appL encSOk Try.underlying30 HM.out (ownl_of_row (H10.out.row HROW.out)) (box_str _ ⟨o.by_.toArray⟩ _) (show y.appr.length + [o.by_].length ≤ 1000000 by simp; omega) rfl _ _ rfl rfl rfl rfl rfl ?_; intro a' c' w9 o9 k9 f9; go_frame)
                            rw [HM.out] at o9
                            have H11 := hid (H10.out.write k9 HFA.out f9 (row_lt o9.row))
                            go_roundw
                            case rel => exact ⟨k + 1, _, a', c', by omega, by go_num, by rw [HEQ.out, HM.out], by rw [HEQ.out]; exact o9.row, by rw [HN2.out]; exact H11.out, by rw [HN2.out]; exact HYN.out, fun i hi => (f9 i hi).elim (HFA.out i) (fun e => Nat.le_trans H10.out.kept.size e)⟩
                            case measure => simp [intOf]; omega
                      · have kcb : (CC != 0) = true := by simpa using kc
                        have HEQ := hid (show (effX U y o x.id).appr = y.appr by rw [HEA.out, if_neg (fun c => kc c.2.2)])
                        skip
                        go_quiet (fail)
                        go_wp2_with fail
                        go_roundw
                        case rel => exact ⟨k + 1, _, a, c, by omega, by go_num, by rw [HEQ.out], by rw [HEQ.out]; exact (H8.out.keptN ((Kept.refl [] w8).drewN _)).row HROW.out, by rw [HN2.out]; exact (H8.out.keptN ((Kept.refl [] w8).drewN _)).anchor, by rw [HN2.out]; exact HYN.out, HFA.out⟩
                        case measure => simp [intOf]; omega
                    · have kib : (o.id != x.id) = true := by simpa using ki
                      have HEQ := hid (show (effX U y o x.id).appr = y.appr by rw [HEA.out, if_neg (fun c => ki c.1)])
                      skip
                      go_quiet (fail)
                      go_wp2_with fail
                      go_roundw
                      case rel => exact ⟨k + 1, _, a, c, by omega, by go_num, by rw [HEQ.out], by rw [HEQ.out]; exact (H8.out.keptN ((Kept.refl [] w8).drewN _)).row HROW.out, by rw [HN2.out]; exact (H8.out.keptN ((Kept.refl [] w8).drewN _)).anchor, by rw [HN2.out]; exact HYN.out, HFA.out⟩
                      case measure => simp [intOf]; omega
                  · have k2b : (o.kind != 2) = true := by simpa using k2
                    have HEQ := hid (show (effX U y o x.id).appr = y.appr by rw [HEA.out, if_neg (fun c => k2 c.2.1)])
                    skip
                    go_quiet (fail)
                    go_wp2_with fail
                    go_roundw
                    case rel => exact ⟨k + 1, _, a, c, by omega, by go_num, by rw [HEQ.out], by rw [HEQ.out]; exact (H8.out.keptN ((Kept.refl [] w8).drewN _)).row HROW.out, by rw [HN2.out]; exact (H8.out.keptN ((Kept.refl [] w8).drewN _)).anchor, by rw [HN2.out]; exact HYN.out, HFA.out⟩
                    case measure => simp [intOf]; omega
              · have HTK := hid (List.take_of_length_le (l := m) (i := k) (by omega))
                rw [HTK.out] at HST HY
                obtain ⟨U, HU⟩ : ∃ U, Hid (run7 U0 m = U) := ⟨_, hid rfl⟩
                rw [HU.out] at HST HY
                obtain ⟨d0, d1, d2, d3, d4, d5, d6, d7, d8⟩ := HCX.out _ HST.out.kept
                clear d0 d2 d3 d4 d6 d7 d8
                have HR := hid (stR_at (now := 0) HY.out.look)
                have hsl : y.steps.length = x.steps.length := by rw [HY.out.steps]
                have HSS := hid (show sumN y.steps = N by rw [HY.out.steps, HN.out])
                have HINV := hid HY.out.inv
                have hfw := HINV.out.few
                by_cases hs : y.step = y.steps.length
                · have hst9 : stS y (lim 0) = sApproved := by unfold stS; rw [if_pos hs]
                  have hA := (done_yes HINV.out hs).trans HSS.out
                  have q1 : ((y.appr.length : Int) == (N : Int)) = true := by rw [beq_iff_eq]; omega
                  have q2 : ((y.appr.length : Int) ≤ (N : Int)) := by omega
                  have q3 : ((y.step : Int) == (x.steps.length : Int)) = true := by rw [beq_iff_eq]; omega
                  have HHA := hid hA
                  clear hA
                  have HR2 := hid (show stR U x.id 0 = ([97, 112, 112, 114, 111, 118, 101, 100], y.step) by rw [HR.out, hst9]; rfl)
                  clear hs hst9
                  go_wp2_with fail
                  refine (state_st HST.out ⟨x.id.toArray⟩ HSX.out.ids.1 0 (r := ([97, 112, 112, 114, 111, 118, 101, 100], y.step)) HR2.out).mono ?_
                  rintro e w8 ⟨rfl, k8⟩
                  have H8 := hid (HST.out.keptN k8)
                  obtain ⟨d0, d1', d2, d3, d4, d5', d6, d7, d8⟩ := HCX.out _ H8.out.kept
                  clear k8 d0 d1' d2 d3 d4 d6 d7 d8
                  go_wp2_with fail
                  go_ret
                  exact ⟨rfl, (HK0.out.step H8.out.kept (by simp)).bel⟩
                · have hA := done_no HINV.out hs
                  rw [HSS.out] at hA
                  have q1 : ((y.appr.length : Int) == (N : Int)) = false := by rw [beq_eq_false_iff_ne]; omega
                  have q2 : ((y.appr.length : Int) ≤ (N : Int)) := by omega
                  have q3 : ((y.step : Int) == (x.steps.length : Int)) = false := by rw [beq_eq_false_iff_ne]; omega
                  rcases sts_of y (lim 0) hs with hst9 | hst9 | hst9
                  · skip
                    have HR2 := hid (show stR U x.id 0 = ([114, 101, 106, 101, 99, 116, 101, 100], y.step) by rw [HR.out, hst9]; rfl)
                    clear hs hst9
                    go_wp2_with fail
                    refine (state_st HST.out ⟨x.id.toArray⟩ HSX.out.ids.1 0 (r := ([114, 101, 106, 101, 99, 116, 101, 100], y.step)) HR2.out).mono ?_
                    rintro e w8 ⟨rfl, k8⟩
                    have H8 := hid (HST.out.keptN k8)
                    obtain ⟨d0, d1', d2, d3, d4, d5', d6, d7, d8⟩ := HCX.out _ H8.out.kept
                    clear k8 d0 d1' d2 d3 d4 d6 d7 d8
                    go_wp2_with fail
                    go_ret
                    exact ⟨rfl, (HK0.out.step H8.out.kept (by simp)).bel⟩
                  · skip
                    have HR2 := hid (show stR U x.id 0 = ([101, 120, 112, 105, 114, 101, 100], y.step) by rw [HR.out, hst9]; rfl)
                    clear hs hst9
                    go_wp2_with fail
                    refine (state_st HST.out ⟨x.id.toArray⟩ HSX.out.ids.1 0 (r := ([101, 120, 112, 105, 114, 101, 100], y.step)) HR2.out).mono ?_
                    rintro e w8 ⟨rfl, k8⟩
                    have H8 := hid (HST.out.keptN k8)
                    obtain ⟨d0, d1', d2, d3, d4, d5', d6, d7, d8⟩ := HCX.out _ H8.out.kept
                    clear k8 d0 d1' d2 d3 d4 d6 d7 d8
                    go_wp2_with fail
                    go_ret
                    exact ⟨rfl, (HK0.out.step H8.out.kept (by simp)).bel⟩
                  · skip
                    have HR2 := hid (show stR U x.id 0 = ([112, 101, 110, 100, 105, 110, 103], y.step) by rw [HR.out, hst9]; rfl)
                    clear hs hst9
                    go_wp2_with fail
                    refine (state_st HST.out ⟨x.id.toArray⟩ HSX.out.ids.1 0 (r := ([112, 101, 110, 100, 105, 110, 103], y.step)) HR2.out).mono ?_
                    rintro e w8 ⟨rfl, k8⟩
                    have H8 := hid (HST.out.keptN k8)
                    obtain ⟨d0, d1', d2, d3, d4, d5', d6, d7, d8⟩ := HCX.out _ H8.out.kept
                    clear k8 d0 d1' d2 d3 d4 d6 d7 d8
                    go_wp2_with fail
                    go_ret
                    exact ⟨rfl, (HK0.out.step H8.out.kept (by simp)).bel⟩
      · have hcb : (C != 0) = true := by simpa using hc
        clear hc
        go_enter Try.func4, Try.ntmps4
        go_wp2_with fail
        rw [← HW0.out]
        refine (live_any w0).mono ?_
        rintro e w1 ⟨rfl, k1⟩
        have K1 := hid k1
        clear k1
        obtain ⟨d0, d1, d2, d3, d4, d5, d6, d7, d8⟩ := HCX.out _ K1.out
        go_wp2_with fail
        refine (long_one x (HX.out.keptN (HK0.out.step K1.out (by simp))) 1 T2.out).mono ?_
        rintro e w2 ⟨rfl, k2⟩
        have K2 := hid (K1.out.step k2 (by simp))
        clear k2 d0 d1 d2 d3 d4 d5 d6 d7 d8
        go_wp2_with fail
        refine (HLB.out _ K2.out).mono ?_
        rintro e w3 ⟨rfl, k3⟩
        have K3 := hid (K2.out.step k3 (by simp))
        clear k3
        go_wp2_with fail
        refine (new_st K3.out w).mono ?_
        rintro e w4 ⟨wb, mb, rfl, h4⟩
        have H4 := hid h4
        clear h4
        obtain ⟨d0, d1, d2, d3, d4, d5, d6, d7, d8⟩ := HCX.out _ H4.out.kept
        go_wp2_with fail
        refine (start_st (cap := x.sc) H4.out ⟨x.id.toArray⟩ ⟨x.name.toArray⟩ ⟨x.user.toArray⟩ ⟨x.by_.toArray⟩ HSX.out.ids.1 HSX.out.ids.2.1 HSX.out.ids.2.2.1 HSX.out.ids.2.2.2 ((HX.out.keptN (HK0.out.step H4.out.kept (by simp))).1) HSX.out.short x.until_ x.now (c := C) HC.out).mono ?_
        rintro e w5 ⟨rfl, h5⟩
        have H5 := hid (show St w0 w5 wb mb (startU [] x.id x.name x.user x.by_ x.steps x.until_ x.now) ⟨w, []⟩ from h5)
        rw [HU0.out] at H5
        clear h5 H4 d0 d1 d2 d3 d4 d5 d6 d7 d8
        go_wp2_with fail
        go_ret
        exact ⟨rfl, (HK0.out.step H5.out.kept (by simp)).bel⟩
    · rw [t1] at HLB
      clear t1
      go_enter Try.func4, Try.ntmps4
      go_wp2_with fail
      rw [← HW0.out]
      refine (live_any w0).mono ?_
      rintro e w1 ⟨rfl, k1⟩
      have K1 := hid k1
      clear k1
      obtain ⟨d0, d1, d2, d3, d4, d5, d6, d7, d8⟩ := HCX.out _ K1.out
      go_wp2_with fail
      refine (long_one x (HX.out.keptN (HK0.out.step K1.out (by simp))) 1 T2.out).mono ?_
      rintro e w2 ⟨rfl, k2⟩
      have K2 := hid (K1.out.step k2 (by simp))
      clear k2 d0 d1 d2 d3 d4 d5 d6 d7 d8
      go_wp2_with fail
      refine (HLB.out _ K2.out).mono ?_
      rintro e w3 ⟨rfl, k3⟩
      have K3 := hid (K2.out.step k3 (by simp))
      clear k3
      go_wp2_with fail
      go_ret
      exact ⟨rfl, (HK0.out.step K3.out (by simp)).bel⟩
  · have T2 := hid ((long_1 x).trans t2)
    clear t2
    go_enter Try.func4, Try.ntmps4
    go_wp2_with fail
    rw [← HW0.out]
    refine (live_any w0).mono ?_
    rintro e w1 ⟨rfl, k1⟩
    have K1 := hid k1
    clear k1
    obtain ⟨d0, d1, d2, d3, d4, d5, d6, d7, d8⟩ := HCX.out _ K1.out
    go_wp2_with fail
    refine (long_one x (HX.out.keptN (HK0.out.step K1.out (by simp))) 1 T2.out).mono ?_
    rintro e w2 ⟨rfl, k2⟩
    have K2 := hid (K1.out.step k2 (by simp))
    clear k2 d0 d1 d2 d3 d4 d5 d6 d7 d8
    go_wp2_with fail
    go_ret
    exact ⟨rfl, (HK0.out.step K2.out (by simp)).bel⟩
end Go.Proofs.Ytionejokdfgmhaa
