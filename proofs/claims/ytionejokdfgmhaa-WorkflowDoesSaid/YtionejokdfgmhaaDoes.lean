/- WorkflowDoes: the walk. Printed by gen_does.py. -/
import Derived.Test.YtionejokdfgmhaaBoth
import Derived.Test.YtionejokdfgmhaaLive
import Derived.Deep.RegionHeld3
namespace Go.Proofs.Ytionejokdfgmhaa
open Go.RowKit Go.Maps

set_option maxHeartbeats 64000000 in
set_option maxRecDepth 100000 in
theorem does_walk {w : World} {a : Option Addr} {cap : Nat} {l : List OpD} (h : OpsAt w a l) :
    Calls Try.prog 3 #[.slice a l.length cap] w fun e w' => e = .returned (.bool true) ∧ Below w.heap.size w w' := by
  have H := hid h
  have hlf := h.cells.few
  unfold maxLen at hlf
  have HLA := hid (fun wq (k : Kept [] w wq) => long_any (cap := cap) (h.keptN k) 20)
  clear h
  cases t1 : longB 20 l
  · rw [t1] at HLA
    have HSL := hid (long_no t1).2
    clear t1
    go_enter Try.func3, Try.ntmps3
    go_wp2_with fail
    refine (new_st (Kept.refl [] w) w).mono ?_
    rintro e w1 ⟨wb, mb, rfl, h1⟩
    have H1 := hid h1
    clear h1
    go_wp2_with fail
    refine (HLA.out _ H1.out.kept).mono ?_
    rintro e w2 ⟨rfl, k2⟩
    have H2 := hid (H1.out.keptN k2)
    clear k2 H1
    go_wp2_with fail
    refine (new_both H2.out).mono ?_
    rintro e w3 ⟨qb, rfl, h3⟩
    have H3 := hid h3
    clear h3 H2
    go_wp2_with fail
    go_loopw [21] (fun i wr => ∃ (k : Nat) (U : Wfs), k ≤ l.length ∧ i = .int .i64 k ∧ Both w wr wb mb U qb U none []) (fun i _ => l.length - (intOf i).toNat)
    case atStart => exact ⟨0, _, Nat.zero_le _, rfl, H3.out⟩
    case round =>
      obtain ⟨k, U, hk, rfl, hst⟩ := hrel
      have HST := hid hst
      clear hst H3
      by_cases hlt : k < l.length
      · obtain ⟨b', off, rfl, hb, hc, hl1⟩ := (H.out.keptN HST.out.kept).get hlt
        have hb1 : (0 : Int) ≤ k := by omega
        have hb2 : (k : Int) < l.length := by omega
        have HSO := hid (HSL.out _ (List.getElem_mem hlt))
        have HOC := hid (fun wq (kq : Kept [] w wq) => ((H.out.keptN kq).get hlt))
        clear hl1
        generalize l[k] = o at *
        clear hc
        have HCELL := hid (fun wq (kq : Kept [] w wq) => show wq.cell? ⟨b', off + k * 9, none⟩ = some (.int .i64 o.kind) ∧ wq.cell? ⟨b', off + k * 9 + 1, none⟩ = some (.string ⟨o.id.toArray⟩) ∧ wq.cell? ⟨b', off + k * 9 + 2, none⟩ = some (.string ⟨o.name.toArray⟩) ∧ wq.cell? ⟨b', off + k * 9 + 3, none⟩ = some (.string ⟨o.user.toArray⟩) ∧ wq.cell? ⟨b', off + k * 9 + 4, none⟩ = some (.string ⟨o.by_.toArray⟩) ∧ wq.cell? ⟨b', off + k * 9 + 5, none⟩ = some (.slice o.sa o.steps.length o.sc) ∧ wq.cell? ⟨b', off + k * 9 + 6, none⟩ = some (.slice o.ga o.groups.length o.gc) ∧ wq.cell? ⟨b', off + k * 9 + 7, none⟩ = some (.int .i64 o.until_) ∧ wq.cell? ⟨b', off + k * 9 + 8, none⟩ = some (.int .i64 o.now) by
          obtain ⟨b2, off2, e2, _, hc2, _⟩ := HOC.out _ kq
          injection e2 with e2; injection e2 with e2 e2'; subst e2; subst e2'
          exact ⟨hc2.c0, hc2.c1, hc2.c2, hc2.c3, hc2.c4, hc2.c5, hc2.c6, hc2.c7, hc2.c8⟩)
        have HCELL2 := hid (fun wq (kq : Kept [] w wq) => show wq.cell? ⟨b', off + k * 9 + 1, none⟩ = some (.string ⟨o.id.toArray⟩) ∧ wq.cell? ⟨b', off + k * 9 + 8, none⟩ = some (.int .i64 o.now) by obtain ⟨d0, d1, d2, d3, d4, d5, d6, d7, d8⟩ := HCELL.out wq kq; exact ⟨d1, d8⟩)
        have HOL := hid (fun wq (kq : Kept [] w wq) => show OpLists wq o by obtain ⟨_, _, _, _, _, hq⟩ := HOC.out _ kq; exact hq)
        have HDA := do_both (HST.out.keptN (Kept.refl [] wr).drew) o HSO.out (HOL.out _ HST.out.kept.drew)
        have HDB := fun wq a10 (hq : Both w wq wb mb (doU U o) qb U a10 (doR U o).list) (hlq : OpLists wq o) => model_both hq o HSO.out hlq
        obtain ⟨R, HR⟩ : ∃ R, Hid (doR U o = R) := ⟨_, hid rfl⟩
        rw [HR.out] at HDA HDB
        obtain ⟨V, HV⟩ : ∃ V, Hid (doU U o = V) := ⟨_, hid rfl⟩
        rw [HV.out] at HDA HDB
        have HDA2 := hid HDA
        have HDB2 := hid HDB
        clear HDA HDB HOC
        have HSAME := hid (fun wq a8 c8 a9 c9 (s8 : StrsAt wq a8 R.list) (s9 : StrsAt wq a9 R.list) => same_any (w := wq) R (a1 := a8) (a2 := a9) (c1 := c8) (c2 := c9) s8 s9)
        obtain ⟨S, HS⟩ : ∃ S, Hid (stR V o.id o.now = S) := ⟨_, hid rfl⟩
        have q1 : (S.1 == S.1) = true := beq_self_eq_true _
        have q2 : ((S.2 : Int) == (S.2 : Int)) = true := beq_self_eq_true _
        go_wp2_with fail
        go_region_held3 (fun w' => w'.cell? ⟨b', off + k * 9, none⟩ = some (.int .i64 o.kind) ∧ w'.cell? ⟨b', off + k * 9 + 1, none⟩ = some (.string ⟨o.id.toArray⟩) ∧ w'.cell? ⟨b', off + k * 9 + 2, none⟩ = some (.string ⟨o.name.toArray⟩) ∧ w'.cell? ⟨b', off + k * 9 + 3, none⟩ = some (.string ⟨o.user.toArray⟩) ∧ w'.cell? ⟨b', off + k * 9 + 4, none⟩ = some (.string ⟨o.by_.toArray⟩) ∧ w'.cell? ⟨b', off + k * 9 + 5, none⟩ = some (.slice o.sa o.steps.length o.sc) ∧ w'.cell? ⟨b', off + k * 9 + 6, none⟩ = some (.slice o.ga o.groups.length o.gc) ∧ w'.cell? ⟨b', off + k * 9 + 7, none⟩ = some (.int .i64 o.until_) ∧ w'.cell? ⟨b', off + k * 9 + 8, none⟩ = some (.int .i64 o.now))
          (first
            | exact HCELL.out _ (h11.kept.step k12 (by simp))
            | exact HCELL.out _ h11.kept
            | exact HCELL.out _ h10.kept
            | exact HCELL.out _ (HST.out.kept.drew))
          (first
            | (go_at_call 13; refine (HSAME.out _ _ _ _ _ s10 s11).mono ?_; rintro e w12 ⟨rfl, k12⟩)
            | (go_at_call 15; refine (HDB2.out _ _ h10 (HOL.out _ h10.kept)).mono ?_; rintro e w11 ⟨a11, c11, rfl, s11, s10, h11⟩)
            | (go_at_call 14; refine HDA2.out.mono ?_; rintro e w10 ⟨a10, c10, rfl, h10⟩))
        have H12 := hid (h11.keptN k12)
        clear k12 h11 h10 s10 s11 HSAME HDA2 HDB2 HST
        go_wp2_with fail
        have HS1 := hid (state_both (H12.out.keptN (Kept.refl [] _).drew) ⟨o.id.toArray⟩ HSO.out.ids.1 o.now (r := S) HS.out)
        go_region_held3 (fun w' => w'.cell? ⟨b', off + k * 9 + 1, none⟩ = some (.string ⟨o.id.toArray⟩) ∧ w'.cell? ⟨b', off + k * 9 + 8, none⟩ = some (.int .i64 o.now))
          (first
            | exact HCELL2.out _ (H12.out.kept.drew.step k13 (by simp))
            | exact HCELL2.out _ (H12.out.kept.drew))
          ((go_at_call 16; refine HS1.out.mono ?_; rintro e w13 ⟨rfl, k13⟩))
        have H13 := hid (H12.out.keptN ((Kept.refl [] _).drew.step k13 (by simp)))
        clear k13 HS1 H12
        go_wp2_with fail
        have HS2 := hid (rstate_both (H13.out.keptN (Kept.refl [] _).drew) ⟨o.id.toArray⟩ o.now (r := S) HS.out)
        go_region_held3 (fun w' => w'.cell? ⟨b', off + k * 9 + 1, none⟩ = some (.string ⟨o.id.toArray⟩) ∧ w'.cell? ⟨b', off + k * 9 + 8, none⟩ = some (.int .i64 o.now))
          (first
            | exact HCELL2.out _ (H13.out.kept.drew.step k14 (by simp))
            | exact HCELL2.out _ (H13.out.kept.drew))
          ((go_at_call 17; refine HS2.out.mono ?_; rintro e w14 ⟨rfl, k14⟩))
        have H14 := hid (H13.out.keptN ((Kept.refl [] _).drew.step k14 (by simp)))
        clear k14 HS2 H13
        go_wp2_with fail
        go_roundw
        case rel => exact ⟨k + 1, V, by omega, by go_num, H14.out⟩
        case measure => simp [intOf]; omega
      · go_wp2_with fail
        refine (live_any _).mono ?_
        rintro e w9 ⟨rfl, k9⟩
        have K9 := hid ((HST.out.kept).step k9 (by simp))
        clear k9
        go_wp2_with fail
        go_ret
        exact ⟨rfl, K9.out.bel⟩
  · rw [t1] at HLA
    clear t1
    go_enter Try.func3, Try.ntmps3
    go_wp2_with fail
    refine (new_st (Kept.refl [] w) w).mono ?_
    rintro e w1 ⟨wb, mb, rfl, h1⟩
    have H1 := hid h1
    clear h1
    go_wp2_with fail
    refine (HLA.out _ H1.out.kept).mono ?_
    rintro e w2 ⟨rfl, k2⟩
    have H2 := hid (H1.out.keptN k2)
    clear k2 H1
    go_wp2_with fail
    refine (live_any _).mono ?_
    rintro e w9 ⟨rfl, k9⟩
    have K9 := hid ((H2.out.kept).step k9 (by simp))
    clear k9
    go_wp2_with fail
    go_ret
    exact ⟨rfl, K9.out.bel⟩
end Go.Proofs.Ytionejokdfgmhaa
