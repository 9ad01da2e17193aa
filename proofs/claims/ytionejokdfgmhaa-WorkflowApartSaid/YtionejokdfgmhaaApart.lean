/- WorkflowApart: the walk. Printed by gen_wapart.py. -/
import Derived.Test.YtionejokdfgmhaaSame
import Derived.Test.YtionejokdfgmhaaOnce
import Derived.Deep.RegionHeld3
namespace Go.Proofs.Ytionejokdfgmhaa
open Go.RowKit Go.Maps

set_option maxHeartbeats 64000000 in
set_option maxRecDepth 100000 in
theorem apart_walk {w : World} {a : Option Addr} {cap : Nat} {l : List OpD} (h : OpsAt w a l) {b : Option Addr} {cap2 : Nat} {m : List OpD} (h2 : OpsAt w b m) (x : OpD) (hx : OpLists w x) :
    Calls Try.prog 6 #[.slice a l.length cap, .slice b m.length cap2, .agg #[.int .i64 x.kind, .string ⟨x.id.toArray⟩, .string ⟨x.name.toArray⟩, .string ⟨x.user.toArray⟩, .string ⟨x.by_.toArray⟩, .slice x.sa x.steps.length x.sc, .slice x.ga x.groups.length x.gc, .int .i64 x.until_, .int .i64 x.now]] w fun e w' => e = .returned (.bool true) ∧ Below w.heap.size w w' := by
  have hbx := heap_alloc_new w (.cells #[.int .i64 x.kind, .string ⟨x.id.toArray⟩, .string ⟨x.name.toArray⟩, .string ⟨x.user.toArray⟩, .string ⟨x.by_.toArray⟩, .slice x.sa x.steps.length x.sc, .slice x.ga x.groups.length x.gc, .int .i64 x.until_, .int .i64 x.now] 37 (0, 0))
  have hk0 := (Kept.refl [] w).alloc (.cells #[.int .i64 x.kind, .string ⟨x.id.toArray⟩, .string ⟨x.name.toArray⟩, .string ⟨x.user.toArray⟩, .string ⟨x.by_.toArray⟩, .slice x.sa x.steps.length x.sc, .slice x.ga x.groups.length x.gc, .int .i64 x.until_, .int .i64 x.now] 37 (0, 0))
  obtain ⟨w0, HW0⟩ : ∃ w0, Hid (w0 = w.alloc (.cells #[.int .i64 x.kind, .string ⟨x.id.toArray⟩, .string ⟨x.name.toArray⟩, .string ⟨x.user.toArray⟩, .string ⟨x.by_.toArray⟩, .slice x.sa x.steps.length x.sc, .slice x.ga x.groups.length x.gc, .int .i64 x.until_, .int .i64 x.now] 37 (0, 0))) := ⟨_, hid rfl⟩
  rw [← HW0.out] at hbx hk0
  have HK0 := hid hk0
  have HX := hid hx
  have HCX := hid (fun wq (k : Kept [] w0 wq) => let hb := k.at hbx (by simp)
    And.intro (show wq.cell? ⟨w.heap.size, 0, none⟩ = some (.int .i64 x.kind) by rw [cell_at hb]; rfl) (And.intro (show wq.cell? ⟨w.heap.size, 1, none⟩ = some (.string ⟨x.id.toArray⟩) by rw [cell_at hb]; rfl) (And.intro (show wq.cell? ⟨w.heap.size, 2, none⟩ = some (.string ⟨x.name.toArray⟩) by rw [cell_at hb]; rfl) (And.intro (show wq.cell? ⟨w.heap.size, 3, none⟩ = some (.string ⟨x.user.toArray⟩) by rw [cell_at hb]; rfl) (And.intro (show wq.cell? ⟨w.heap.size, 4, none⟩ = some (.string ⟨x.by_.toArray⟩) by rw [cell_at hb]; rfl) (And.intro (show wq.cell? ⟨w.heap.size, 5, none⟩ = some (.slice x.sa x.steps.length x.sc) by rw [cell_at hb]; rfl) (And.intro (show wq.cell? ⟨w.heap.size, 6, none⟩ = some (.slice x.ga x.groups.length x.gc) by rw [cell_at hb]; rfl) (And.intro (show wq.cell? ⟨w.heap.size, 7, none⟩ = some (.int .i64 x.until_) by rw [cell_at hb]; rfl) (show wq.cell? ⟨w.heap.size, 8, none⟩ = some (.int .i64 x.now) by rw [cell_at hb]; rfl)))))))))
  have H := hid h
  have H2 := hid h2
  have hlf := h.cells.few
  have hmf := h2.cells.few
  unfold maxLen at hlf hmf
  have HLA := hid (fun wq (k : Kept [] w0 wq) => long_any (cap := cap) (h.keptN (hk0.step k (by simp))) 12)
  have HLB := hid (fun wq (k : Kept [] w0 wq) => long_any (cap := cap2) (h2.keptN (hk0.step k (by simp))) 12)
  clear h h2 hx hbx hk0
  cases t1 : longB 12 l
  · rw [t1] at HLA
    cases t3 : longB 12 m
    · rw [t3] at HLB
      cases t2 : bigB x
      · have HSX := hid (small_of t2)
        have T2 := hid ((long_1 x).trans t2)
        have HSL := hid (long_no t1).2
        have HSM := hid (long_no t3).2
        clear t1 t2 t3
        obtain ⟨C, HC⟩ : ∃ C, Hid (startC [] x.id x.name x.user x.by_ x.steps x.until_ x.now = C) := ⟨_, hid rfl⟩
        obtain ⟨U0, HU0⟩ : ∃ U0, Hid (startU [] x.id x.name x.user x.by_ x.steps x.until_ x.now = U0) := ⟨_, hid rfl⟩
        by_cases hc : C = 0
        · subst hc
          have HY0 := hid (show Has U0 x (newX x.name x.user x.by_ x.steps x.until_) by rw [← HU0.out]; exact Has.start HC.out)
          go_enter Try.func6, Try.ntmps6
          go_wp2_with fail
          rw [← HW0.out]
          refine (live_any w0).mono ?_
          rintro e w1 ⟨rfl, k1⟩
          have K1 := hid k1
          clear k1
          go_wp2_with fail
          refine (HLA.out _ K1.out).mono ?_
          rintro e w2 ⟨rfl, k2⟩
          have K2 := hid (K1.out.step k2 (by simp))
          clear k2
          go_wp2_with fail
          refine (HLB.out _ K2.out).mono ?_
          rintro e w3 ⟨rfl, k3⟩
          have K3 := hid (K2.out.step k3 (by simp))
          clear k3
          obtain ⟨d0, d1, d2, d3, d4, d5, d6, d7, d8⟩ := HCX.out _ K3.out
          go_wp2_with fail
          refine (long_one x (HX.out.keptN (HK0.out.step K3.out (by simp))) 1 T2.out).mono ?_
          rintro e w4 ⟨rfl, k4⟩
          have K4 := hid (K3.out.step k4 (by simp))
          clear k4 d0 d1 d2 d3 d4 d5 d6 d7 d8
          go_wp2_with fail
          refine (new_st K4.out w).mono ?_
          rintro e w5 ⟨wa, ma, rfl, h5⟩
          have H5 := hid h5
          clear h5
          go_wp2_with fail
          refine (new_two H5.out).mono ?_
          rintro e w6 ⟨wb, mb, rfl, h6⟩
          have H6 := hid h6
          clear h6 H5
          obtain ⟨d0, d1, d2, d3, d4, d5, d6, d7, d8⟩ := HCX.out _ H6.out.kept
          go_wp2_with fail
          refine (start_two (cap := x.sc) H6.out ⟨x.id.toArray⟩ ⟨x.name.toArray⟩ ⟨x.user.toArray⟩ ⟨x.by_.toArray⟩ HSX.out.ids.1 HSX.out.ids.2.1 HSX.out.ids.2.2.1 HSX.out.ids.2.2.2 ((HX.out.keptN (HK0.out.step H6.out.kept (by simp))).1) HSX.out.short x.until_ x.now (c := 0) HC.out).mono ?_
          rintro e w7 ⟨rfl, h7⟩
          have H7 := hid (show Two w0 w7 wa ma (startU [] x.id x.name x.user x.by_ x.steps x.until_ x.now) wb mb [] from h7)
          rw [HU0.out] at H7
          clear h7 H6 d0 d1 d2 d3 d4 d5 d6 d7 d8
          obtain ⟨d0, d1, d2, d3, d4, d5, d6, d7, d8⟩ := HCX.out _ H7.out.kept
          go_wp2_with fail
          refine (start_two (cap := x.sc) H7.out.swap ⟨x.id.toArray⟩ ⟨x.name.toArray⟩ ⟨x.user.toArray⟩ ⟨x.by_.toArray⟩ HSX.out.ids.1 HSX.out.ids.2.1 HSX.out.ids.2.2.1 HSX.out.ids.2.2.2 ((HX.out.keptN (HK0.out.step H7.out.kept (by simp))).1) HSX.out.short x.until_ x.now (c := 0) HC.out).mono ?_
          rintro e w8 ⟨rfl, h8⟩
          have H8 := hid (show Two w0 w8 wb mb (startU [] x.id x.name x.user x.by_ x.steps x.until_ x.now) wa ma U0 from h8)
          rw [HU0.out] at H8
          have H9 := hid H8.out.swap
          clear h8 H7 H8 d0 d1 d2 d3 d4 d5 d6 d7 d8
          go_wp2_with fail
          go_loopw [68] (fun i wr => ∃ (k : Nat) (UB : Wfs) (y : Proc), k ≤ m.length ∧ i = .int .i64 k ∧ Two w0 wr wa ma U0 wb mb UB ∧ Same2 U0 UB x y) (fun i _ => m.length - (intOf i).toNat)
          case atStart => exact ⟨0, _, _, Nat.zero_le _, rfl, H9.out, HY0.out.look, HY0.out.look, HY0.out.user⟩
          case round =>
            obtain ⟨k, UB, y, hk, rfl, hst, hy⟩ := hrel
            have HST := hid hst
            have HY := hid hy
            clear hst hy H9 HY0
            by_cases hlt : k < m.length
            · obtain ⟨b', off, rfl, hb, hc, hl1⟩ := (H2.out.keptN (HK0.out.step HST.out.kept (by simp))).get hlt
              have hb1 : (0 : Int) ≤ k := by omega
              have hb2 : (k : Int) < m.length := by omega
              have HSO := hid (HSM.out _ (List.getElem_mem hlt))
              have HL1 := hid hl1
              have HOC := hid (fun wq (kq : Kept [] w0 wq) => ((H2.out.keptN (HK0.out.step kq (by simp))).get hlt))
              clear hl1
              generalize m[k] = o at *
              obtain ⟨d0, d1, d2, d3, d4, d5, d6, d7, d8⟩ := hc
              obtain ⟨_, x1, _, x3, _, _, _, _, _⟩ := HCX.out _ HST.out.kept
              unfold sV at d1 d2 d3 d4
              by_cases ki : o.id = x.id
              · have kib : (o.id == x.id) = true := by simp [ki]
                go_wp2_with fail
                go_quiet (fail)
                go_wp2_with fail
                go_roundw
                case rel => exact ⟨k + 1, UB, y, by omega, by go_num, HST.out.keptN ((Kept.refl [] wr).drewN _), HY.out⟩
                case measure => simp [intOf]; omega
              · have kib : (o.id == x.id) = false := by simpa using ki
                by_cases ku : o.user = x.user
                · have kub : (o.user == x.user) = true := by simp [ku]
                  go_wp2_with fail
                  go_quiet (fail)
                  go_wp2_with fail
                  go_roundw
                  case rel => exact ⟨k + 1, UB, y, by omega, by go_num, HST.out.keptN ((Kept.refl [] wr).drewN _), HY.out⟩
                  case measure => simp [intOf]; omega
                · have kub : (o.user == x.user) = false := by simpa using ku
                  have HYN := hid (HY.out.other ki ku)
                  go_wp2_with fail
                  go_quiet (fail)
                  obtain ⟨w9, HW9⟩ : ∃ w9, Hid (w9 = wr.drewN nq) := ⟨_, hid rfl⟩
                  have H10 := hid (HST.out.keptN ((Kept.refl [] wr).drewN nq))
                  have HL2 := hid (HL1.out.keptN ((Kept.refl [] wr).drewN nq))
                  rw [← HW9.out] at H10 HL2 ⊢
                  obtain ⟨b2, off2, e2, hb2', hc2, _⟩ := HOC.out _ H10.out.kept
                  injection e2 with e2; injection e2 with e2 e2'; subst e2; subst e2'
                  clear d0 d1 d2 d3 d4 d5 d6 d7 d8 hb2'
                  obtain ⟨d0, d1, d2, d3, d4, d5, d6, d7, d8⟩ := hc2
                  unfold sV at d1 d2 d3 d4
                  go_wp2_with fail
                  refine (do_two H10.out.swap o HSO.out HL2.out).mono ?_
                  rintro e w10 ⟨⟨a7, c7, rfl, s7, n7⟩, h7⟩
                  have H11 := hid h7.swap
                  clear h7
                  go_wp2_with fail
                  go_roundw
                  case rel => exact ⟨k + 1, _, y, by omega, by go_num, H11.out, HYN.out⟩
                  case measure => simp [intOf]; omega
            · go_wp2_with fail
              go_loopw [98] (fun i wx => ∃ (k : Nat) (UA UB : Wfs) (y : Proc), k ≤ l.length ∧ i = .int .i64 k ∧ Two w0 wx wa ma UA wb mb UB ∧ Same2 UA UB x y) (fun i _ => l.length - (intOf i).toNat)
              case atStart => exact ⟨0, _, _, _, Nat.zero_le _, rfl, HST.out, HY.out⟩
              case round =>
                clear HST HY
                obtain ⟨k, UA, UB, y, hk, rfl, hst, hy⟩ := hrel
                have HST := hid hst
                have HY := hid hy
                clear hst hy
                by_cases hlt : k < l.length
                · obtain ⟨b', off, rfl, hb, hc, hl1⟩ := (H.out.keptN (HK0.out.step HST.out.kept (by simp))).get hlt
                  have hb1 : (0 : Int) ≤ k := by omega
                  have hb2 : (k : Int) < l.length := by omega
                  have HSO := hid (HSL.out _ (List.getElem_mem hlt))
                  have HL1 := hid hl1
                  have HOC := hid (fun wq (kq : Kept [] w0 wq) => ((H.out.keptN (HK0.out.step kq (by simp))).get hlt))
                  clear hl1
                  generalize l[k] = o at *
                  obtain ⟨d0, d1, d2, d3, d4, d5, d6, d7, d8⟩ := hc
                  obtain ⟨_, x1, _, x3, _, _, _, _, _⟩ := HCX.out _ HST.out.kept
                  unfold sV at d1 d2 d3 d4
                  by_cases ki : o.id = x.id
                  · have kib : (o.id == x.id) = true := by simp [ki]
                    by_cases k2 : o.kind < 2
                    · have k2b : decide (o.kind < 2) = true := by rw [decide_eq_true_eq]; exact k2
                      go_wp2_with fail
                      go_quiet (fail)
                      go_wp2_with fail
                      go_roundw
                      case rel => exact ⟨k + 1, UA, UB, y, by omega, by go_num, HST.out.keptN ((Kept.refl [] wr).drewN _), HY.out⟩
                      case measure => simp [intOf]; omega
                    · have k2b : decide (o.kind < 2) = false := by rw [decide_eq_false_iff_not]; exact k2
                      by_cases k5 : 5 < o.kind
                      · have k5b : decide (5 < o.kind) = true := by rw [decide_eq_true_eq]; exact k5
                        go_wp2_with fail
                        go_quiet (fail)
                        go_wp2_with fail
                        go_roundw
                        case rel => exact ⟨k + 1, UA, UB, y, by omega, by go_num, HST.out.keptN ((Kept.refl [] wr).drewN _), HY.out⟩
                        case measure => simp [intOf]; omega
                      · have k5b : decide (5 < o.kind) = false := by rw [decide_eq_false_iff_not]; exact k5
                        obtain ⟨HEQ, y', hy'⟩ := HY.out.both ki (by omega) (by omega)
                        have HYN := hid hy'
                        obtain ⟨R, HR⟩ : ∃ R, Hid (doR UB o = R) := ⟨_, hid rfl⟩
                        have HRA := hid (HEQ.trans HR.out)
                        have HRL := hid (show R.list = [] by rw [← HR.out]; exact do_nolist o (by omega) (by omega))
                        clear HEQ hy'
                        have HCELL := hid (fun wq (kq : Kept [] w0 wq) => show wq.cell? ⟨b', off + k * 9, none⟩ = some (.int .i64 o.kind) ∧ wq.cell? ⟨b', off + k * 9 + 1, none⟩ = some (.string ⟨o.id.toArray⟩) ∧ wq.cell? ⟨b', off + k * 9 + 2, none⟩ = some (.string ⟨o.name.toArray⟩) ∧ wq.cell? ⟨b', off + k * 9 + 3, none⟩ = some (.string ⟨o.user.toArray⟩) ∧ wq.cell? ⟨b', off + k * 9 + 4, none⟩ = some (.string ⟨o.by_.toArray⟩) ∧ wq.cell? ⟨b', off + k * 9 + 5, none⟩ = some (.slice o.sa o.steps.length o.sc) ∧ wq.cell? ⟨b', off + k * 9 + 6, none⟩ = some (.slice o.ga o.groups.length o.gc) ∧ wq.cell? ⟨b', off + k * 9 + 7, none⟩ = some (.int .i64 o.until_) ∧ wq.cell? ⟨b', off + k * 9 + 8, none⟩ = some (.int .i64 o.now) by
                          obtain ⟨b2, off2, e2, _, hc2, _⟩ := HOC.out _ kq
                          injection e2 with e2; injection e2 with e2 e2'; subst e2; subst e2'
                          exact ⟨hc2.c0, hc2.c1, hc2.c2, hc2.c3, hc2.c4, hc2.c5, hc2.c6, hc2.c7, hc2.c8⟩)
                        go_wp2_with fail
                        go_quiet (fail)
                        obtain ⟨w9, HW9⟩ : ∃ w9, Hid (w9 = wr.drewN nq) := ⟨_, hid rfl⟩
                        have H10 := hid (HST.out.keptN ((Kept.refl [] wr).drewN nq))
                        have HL2 := hid (HL1.out.keptN ((Kept.refl [] wr).drewN nq))
                        rw [← HW9.out] at H10 HL2 ⊢
                        clear d0 d1 d2 d3 d4 d5 d6 d7 d8 x1 x3 kib ki k2 k2b k5 k5b
                        go_wp2_with fail
                        have HDA := do_two (H10.out.keptN (Kept.refl [] w9).drew) o HSO.out (HL2.out.keptN (Kept.refl [] w9).drew)
                        rw [HRA.out] at HDA
                        have HDA2 := hid HDA
                        have HDB := fun wq (hq : Two w0 wq wa ma (doU UA o) wb mb UB) (hlq : OpLists wq o) => do_two hq.swap o HSO.out hlq
                        rw [HR.out] at HDB
                        have HDB2 := hid HDB
                        clear HDA HDB
                        have HOL := hid (fun wq (kq : Kept [] w0 wq) => show OpLists wq o by obtain ⟨_, _, _, _, _, hq⟩ := HOC.out _ kq; exact hq)
                        have HSAME := hid (fun wq a8 c8 a9 c9 => same_any (w := wq) R (a1 := a8) (a2 := a9) (c1 := c8) (c2 := c9) (by rw [HRL.out]; exact list_nil wq a8) (by rw [HRL.out]; exact list_nil wq a9))
                        go_region_held3 (fun w' => w'.cell? ⟨b', off + k * 9, none⟩ = some (.int .i64 o.kind) ∧ w'.cell? ⟨b', off + k * 9 + 1, none⟩ = some (.string ⟨o.id.toArray⟩) ∧ w'.cell? ⟨b', off + k * 9 + 2, none⟩ = some (.string ⟨o.name.toArray⟩) ∧ w'.cell? ⟨b', off + k * 9 + 3, none⟩ = some (.string ⟨o.user.toArray⟩) ∧ w'.cell? ⟨b', off + k * 9 + 4, none⟩ = some (.string ⟨o.by_.toArray⟩) ∧ w'.cell? ⟨b', off + k * 9 + 5, none⟩ = some (.slice o.sa o.steps.length o.sc) ∧ w'.cell? ⟨b', off + k * 9 + 6, none⟩ = some (.slice o.ga o.groups.length o.gc) ∧ w'.cell? ⟨b', off + k * 9 + 7, none⟩ = some (.int .i64 o.until_) ∧ w'.cell? ⟨b', off + k * 9 + 8, none⟩ = some (.int .i64 o.now))
                          (first
                            | exact HCELL.out _ (h11.kept.step k12 (by simp))
                            | exact HCELL.out _ h11.kept
                            | exact HCELL.out _ h10.kept
                            | exact HCELL.out _ (H10.out.kept.drew))
                          (first
                            | (go_at_call 13; refine (HSAME.out _ _ _ _ _).mono ?_; rintro e w12 ⟨rfl, k12⟩)
                            | (go_at_call 14; refine (HDB2.out _ h10 (HOL.out _ h10.kept)).mono ?_; rintro e w11 ⟨⟨a11, c11, rfl, s11, n11⟩, h11⟩; unfold sV; clear s11)
                            | (go_at_call 14; refine HDA2.out.mono ?_; rintro e w10 ⟨⟨a10, c10, rfl, s10, n10⟩, h10⟩; unfold sV; clear s10))
                        go_wp2_with fail
                        go_roundw
                        case rel => exact ⟨k + 1, _, _, y', by omega, by go_num, h11.swap.keptN k12, HYN.out⟩
                        case measure => simp [intOf]; omega
                  · have kib : (o.id == x.id) = false := by simpa using ki
                    go_wp2_with fail
                    go_quiet (fail)
                    go_wp2_with fail
                    go_roundw
                    case rel => exact ⟨k + 1, UA, UB, y, by omega, by go_num, HST.out.keptN ((Kept.refl [] wr).drewN _), HY.out⟩
                    case measure => simp [intOf]; omega
                · have HR := hid (st_congr (show alook UA x.id = alook UB x.id by rw [HY.out.a, HY.out.b]) x.now)
                  obtain ⟨R, HR2⟩ : ∃ R, Hid (stR UB x.id x.now = R) := ⟨_, hid rfl⟩
                  have HR1 := hid (HR.out.trans HR2.out)
                  have q1 : (R.1 == R.1) = true := beq_self_eq_true _
                  have q2 : ((R.2 : Int) == (R.2 : Int)) = true := beq_self_eq_true _
                  obtain ⟨d0, d1, d2, d3, d4, d5, d6, d7, d8⟩ := HCX.out _ HST.out.kept
                  go_wp2_with fail
                  refine (state_two HST.out ⟨x.id.toArray⟩ HSX.out.ids.1 x.now (r := R) HR1.out).mono ?_
                  rintro e w10 ⟨rfl, k10⟩
                  have H10 := hid (HST.out.keptN k10)
                  clear k10 d0 d1 d2 d3 d4 d5 d6 d7 d8 HST
                  obtain ⟨d0, d1, d2, d3, d4, d5, d6, d7, d8⟩ := HCX.out _ H10.out.kept
                  go_wp2_with fail
                  refine (state_two H10.out.swap ⟨x.id.toArray⟩ HSX.out.ids.1 x.now (r := R) HR2.out).mono ?_
                  rintro e w11 ⟨rfl, k11⟩
                  have H11 := hid (H10.out.keptN k11)
                  clear k11
                  go_wp2_with fail
                  go_ret
                  exact ⟨rfl, (HK0.out.step H11.out.kept (by simp)).bel⟩
        · have hcb : (C != 0) = true := by simpa using hc
          clear hc
          go_enter Try.func6, Try.ntmps6
          go_wp2_with fail
          rw [← HW0.out]
          refine (live_any w0).mono ?_
          rintro e w1 ⟨rfl, k1⟩
          have K1 := hid k1
          clear k1
          go_wp2_with fail
          refine (HLA.out _ K1.out).mono ?_
          rintro e w2 ⟨rfl, k2⟩
          have K2 := hid (K1.out.step k2 (by simp))
          clear k2
          go_wp2_with fail
          refine (HLB.out _ K2.out).mono ?_
          rintro e w3 ⟨rfl, k3⟩
          have K3 := hid (K2.out.step k3 (by simp))
          clear k3
          obtain ⟨d0, d1, d2, d3, d4, d5, d6, d7, d8⟩ := HCX.out _ K3.out
          go_wp2_with fail
          refine (long_one x (HX.out.keptN (HK0.out.step K3.out (by simp))) 1 T2.out).mono ?_
          rintro e w4 ⟨rfl, k4⟩
          have K4 := hid (K3.out.step k4 (by simp))
          clear k4 d0 d1 d2 d3 d4 d5 d6 d7 d8
          go_wp2_with fail
          refine (new_st K4.out w).mono ?_
          rintro e w5 ⟨wa, ma, rfl, h5⟩
          have H5 := hid h5
          clear h5
          go_wp2_with fail
          refine (new_two H5.out).mono ?_
          rintro e w6 ⟨wb, mb, rfl, h6⟩
          have H6 := hid h6
          clear h6 H5
          obtain ⟨d0, d1, d2, d3, d4, d5, d6, d7, d8⟩ := HCX.out _ H6.out.kept
          go_wp2_with fail
          refine (start_two (cap := x.sc) H6.out ⟨x.id.toArray⟩ ⟨x.name.toArray⟩ ⟨x.user.toArray⟩ ⟨x.by_.toArray⟩ HSX.out.ids.1 HSX.out.ids.2.1 HSX.out.ids.2.2.1 HSX.out.ids.2.2.2 ((HX.out.keptN (HK0.out.step H6.out.kept (by simp))).1) HSX.out.short x.until_ x.now (c := C) HC.out).mono ?_
          rintro e w7 ⟨rfl, h7⟩
          have H7 := hid (show Two w0 w7 wa ma (startU [] x.id x.name x.user x.by_ x.steps x.until_ x.now) wb mb [] from h7)
          rw [HU0.out] at H7
          clear h7 H6 d0 d1 d2 d3 d4 d5 d6 d7 d8
          go_wp2_with fail
          go_ret
          exact ⟨rfl, (HK0.out.step H7.out.kept (by simp)).bel⟩
      · have T2 := hid ((long_1 x).trans t2)
        clear t1 t2 t3
        go_enter Try.func6, Try.ntmps6
        go_wp2_with fail
        rw [← HW0.out]
        refine (live_any w0).mono ?_
        rintro e w1 ⟨rfl, k1⟩
        have K1 := hid k1
        clear k1
        go_wp2_with fail
        refine (HLA.out _ K1.out).mono ?_
        rintro e w2 ⟨rfl, k2⟩
        have K2 := hid (K1.out.step k2 (by simp))
        clear k2
        go_wp2_with fail
        refine (HLB.out _ K2.out).mono ?_
        rintro e w3 ⟨rfl, k3⟩
        have K3 := hid (K2.out.step k3 (by simp))
        clear k3
        obtain ⟨d0, d1, d2, d3, d4, d5, d6, d7, d8⟩ := HCX.out _ K3.out
        go_wp2_with fail
        refine (long_one x (HX.out.keptN (HK0.out.step K3.out (by simp))) 1 T2.out).mono ?_
        rintro e w4 ⟨rfl, k4⟩
        have K4 := hid (K3.out.step k4 (by simp))
        clear k4 d0 d1 d2 d3 d4 d5 d6 d7 d8
        go_wp2_with fail
        go_ret
        exact ⟨rfl, (HK0.out.step K4.out (by simp)).bel⟩
    · rw [t3] at HLB
      clear t1 t3
      go_enter Try.func6, Try.ntmps6
      go_wp2_with fail
      rw [← HW0.out]
      refine (live_any w0).mono ?_
      rintro e w1 ⟨rfl, k1⟩
      have K1 := hid k1
      clear k1
      go_wp2_with fail
      refine (HLA.out _ K1.out).mono ?_
      rintro e w2 ⟨rfl, k2⟩
      have K2 := hid (K1.out.step k2 (by simp))
      clear k2
      go_wp2_with fail
      refine (HLB.out _ K2.out).mono ?_
      rintro e w3 ⟨rfl, k3⟩
      have K3 := hid (K2.out.step k3 (by simp))
      clear k3
      obtain ⟨d0, d1, d2, d3, d4, d5, d6, d7, d8⟩ := HCX.out _ K3.out
      go_wp2_with fail
      go_ret
      exact ⟨rfl, (HK0.out.step K3.out (by simp)).bel⟩
  · rw [t1] at HLA
    clear t1
    go_enter Try.func6, Try.ntmps6
    go_wp2_with fail
    rw [← HW0.out]
    refine (live_any w0).mono ?_
    rintro e w1 ⟨rfl, k1⟩
    have K1 := hid k1
    clear k1
    go_wp2_with fail
    refine (HLA.out _ K1.out).mono ?_
    rintro e w2 ⟨rfl, k2⟩
    have K2 := hid (K1.out.step k2 (by simp))
    clear k2
    go_wp2_with fail
    go_ret
    exact ⟨rfl, (HK0.out.step K2.out (by simp)).bel⟩
end Go.Proofs.Ytionejokdfgmhaa
