/- Approve of the reference. Printed by gen_ref4.py. -/
import Derived.Test.YtionejokdfgmhaaRef3
namespace Go.Proofs.Ytionejokdfgmhaa
open Go.RowKit Go.Maps

theorem eleven {w : World} {b : Nat} {t : TypeId} {v0 v1 v2 v3 v4 v5 v6 v7 v8 v9 v10 : Value} (h : w.heap[b]? = some (.cells #[v0, v1, v2, v3, v4, v5, v6, v7, v8, v9, v10] t (0, 0))) :
    w.cell? ⟨b, 0, none⟩ = some v0 ∧ w.cell? ⟨b, 1, none⟩ = some v1 ∧ w.cell? ⟨b, 2, none⟩ = some v2 ∧ w.cell? ⟨b, 3, none⟩ = some v3 ∧ w.cell? ⟨b, 4, none⟩ = some v4 ∧ w.cell? ⟨b, 5, none⟩ = some v5 ∧ w.cell? ⟨b, 6, none⟩ = some v6 ∧ w.cell? ⟨b, 7, none⟩ = some v7 ∧ w.cell? ⟨b, 8, none⟩ = some v8 ∧ w.cell? ⟨b, 9, none⟩ = some v9 ∧ w.cell? ⟨b, 10, none⟩ = some v10 := by
  refine ⟨?_, ?_, ?_, ?_, ?_, ?_, ?_, ?_, ?_, ?_, ?_⟩ <;> (rw [cell_at h]; rfl)


theorem set_past (y : Ent) (R : List Value) (i k : Nat) (v : Value) : (encR y ++ R).set ((i + 1) * 11 + k) v = encR y ++ R.set (i * 11 + k) v := by
  have hl : (encR y).length = 11 := rfl
  rw [List.set_append_right _ _ (by omega), hl, show (i + 1) * 11 + k - 11 = i * 11 + k by omega]
theorem rowV_set_ent (Y : List Ent) (i : Nat) (hi : i < Y.length) (v0 v1 v2 v3 v4 v5 v6 v7 v8 v9 v10 : Value) (e' : Ent) (he : encR e' = [v0, v1, v2, v3, v4, v5, v6, v7, v8, v9, v10]) : (((((((((((rowV encR Y).set (i * 11 + 0) v0).set (i * 11 + 1) v1).set (i * 11 + 2) v2).set (i * 11 + 3) v3).set (i * 11 + 4) v4).set (i * 11 + 5) v5).set (i * 11 + 6) v6).set (i * 11 + 7) v7).set (i * 11 + 8) v8).set (i * 11 + 9) v9).set (i * 11 + 10) v10 = rowV encR (Y.set i e') := by
  induction Y generalizing i with
  | nil => simp at hi
  | cons y r ih =>
    cases i with
    | zero =>
      show _ = encR e' ++ rowV encR r
      rw [he]
      rfl
    | succ i =>
      show (((((((((((encR y ++ rowV encR r).set ((i + 1) * 11 + 0) v0).set ((i + 1) * 11 + 1) v1).set ((i + 1) * 11 + 2) v2).set ((i + 1) * 11 + 3) v3).set ((i + 1) * 11 + 4) v4).set ((i + 1) * 11 + 5) v5).set ((i + 1) * 11 + 6) v6).set ((i + 1) * 11 + 7) v7).set ((i + 1) * 11 + 8) v8).set ((i + 1) * 11 + 9) v9).set ((i + 1) * 11 + 10) v10 = encR y ++ rowV encR (r.set i e')
      simp only [set_past]
      exact congrArg (encR y ++ ·) (ih i (by simpa using hi))


/-- All cells of an entry have been written. -/
theorem RefAt.set11 {w w6 : World} {qb g cap : Nat} {Y : List Ent} (h : RefAt w qb (some ⟨g, 0, none⟩) cap Y) {i : Nat} (hi : i < Y.length) (k6 : Kept [] w w6) (v0 v1 v2 v3 v4 v5 v6 v7 v8 v9 v10 : Value) (e' : Ent) (he : encR e' = [v0, v1, v2, v3, v4, v5, v6, v7, v8, v9, v10]) (hk : e'.1 = Y[i].1) (hl : EntL w6 e') (hn : ∀ j, j ∈ fp e'.2.sa ∨ j ∈ fp e'.2.aa → (j ∈ fp Y[i].2.sa ∨ j ∈ fp Y[i].2.aa) ∨ w.heap.size ≤ j) (hinv : Inv e'.2.x) {f : Proc → Proc} (hf : e'.2.x = f Y[i].2.x) :
    RLeft w (((((((((((w6.setCell ⟨g, i * 11, none⟩ v0).setCell ⟨g, i * 11 + 1, none⟩ v1).setCell ⟨g, i * 11 + 2, none⟩ v2).setCell ⟨g, i * 11 + 3, none⟩ v3).setCell ⟨g, i * 11 + 4, none⟩ v4).setCell ⟨g, i * 11 + 5, none⟩ v5).setCell ⟨g, i * 11 + 6, none⟩ v6).setCell ⟨g, i * 11 + 7, none⟩ v7).setCell ⟨g, i * 11 + 8, none⟩ v8).setCell ⟨g, i * 11 + 9, none⟩ v9).setCell ⟨g, i * 11 + 10, none⟩ v10).drew qb (some ⟨g, 0, none⟩) Y (updU (absR Y) Y[i].1 f) := by
  have h6 := h.keptN k6
  refine RLeft.keptN (h.upd hi (e' := e') k6 ((((((((((((Kept.refl (fp (some (⟨g, 0, none⟩ : Addr))) w6).setCell (.inl (by simp [fp])) _).setCell (.inl (by simp [fp])) _).setCell (.inl (by simp [fp])) _).setCell (.inl (by simp [fp])) _).setCell (.inl (by simp [fp])) _).setCell (.inl (by simp [fp])) _).setCell (.inl (by simp [fp])) _).setCell (.inl (by simp [fp])) _).setCell (.inl (by simp [fp])) _).setCell (.inl (by simp [fp])) _).setCell (.inl (by simp [fp])) _) ?_ hk hl hn hinv hf) (Kept.refl [] _).drew
  rw [← rowV_set_ent Y i hi v0 v1 v2 v3 v4 v5 v6 v7 v8 v9 v10 e' he]
  exact (((((((((((h6.row.stored (i * 11 + 0) v0).1.stored (i * 11 + 1) v1).1.stored (i * 11 + 2) v2).1.stored (i * 11 + 3) v3).1.stored (i * 11 + 4) v4).1.stored (i * 11 + 5) v5).1.stored (i * 11 + 6) v6).1.stored (i * 11 + 7) v7).1.stored (i * 11 + 8) v8).1.stored (i * 11 + 9) v9).1.stored (i * 11 + 10) v10).1

set_option maxHeartbeats 16000000 in
set_option maxRecDepth 100000 in
theorem rapprove_any {w : World} {qb : Nat} {a : Option Addr} {cap : Nat} {Y : List Ent} (h : RefAt w qb a cap Y) (s by_ : ByteArray) {ga : Option Addr} {gc : Nat} {gl : List Str} (hgl : StrsAt w ga gl) (now : Int) :
    Calls Try.prog 30 #[.pointer (some ⟨qb, 0, none⟩), .string s, .string by_, .slice ga gl.length gc, .int .i64 now] w fun e w' => e = .returned (.int .i64 (apprC (absR Y) s.data.toList by_.data.toList gl now)) ∧ RLeft w w' qb a Y (apprU (absR Y) s.data.toList by_.data.toList gl now) := by
  have HP := hid (ropen_any h s now)
  by_cases hz : pendC (absR Y) s.data.toList now = 0
  · obtain ⟨i, hi, e, hk, hl, hst⟩ := rpend hz
    rw [hz, e] at HP
    have E := hid (show apprC (absR Y) s.data.toList by_.data.toList gl now = if denB Y[i].2.x by_.data.toList || !hasS gl (grpS Y[i].2.x) then 11 else if hasS Y[i].2.x.appr by_.data.toList then 7 else 0 by unfold apprC; rw [if_pos hz, hl])
    have E2 := hid (show apprU (absR Y) s.data.toList by_.data.toList gl now = if apprC (absR Y) s.data.toList by_.data.toList gl now = 0 then updU (absR Y) s.data.toList (apprX by_.data.toList) else absR Y from rfl)
    obtain ⟨g, cur, rfl, hg, hcs, hnc, hc⟩ := h.get hi
    have hfew := h.few
    have hi1 : (0 : Int) ≤ i := by omega
    have hi2 : (i : Int) < Y.length := by omega
    have hinv := h.inv _ (List.getElem_mem hi)
    have hlt := pend_step hst hinv
    have HINV := hid hinv
    have hlt8 := hinv.len8
    have hafew := hinv.few
    have HCL := hid (h.cells hc)
    have HENT := hid (h.each _ (List.getElem_mem hi))
    have HHG := hid hg
    have HG := hid (show grpS Y[i].2.x = Y[i].2.x.steps[Y[i].2.x.step].1 by unfold grpS; rw [List.getElem?_eq_getElem hlt]; rfl)
    have HND := hid (needX_at hlt)
    have HK := hid hk
    have HLT := hid hlt
    have HH := hid h
    obtain ⟨gr, hgr⟩ : ∃ gr, grpS Y[i].2.x = gr := ⟨_, rfl⟩
    rw [hgr] at E HG
    have hde : denB Y[i].2.x by_.data.toList = ((by_.data.toList == Y[i].2.x.user) || (by_.data.toList == Y[i].2.x.by_)) := rfl
    rw [hde] at E
    have hs2 : (0 : Int) ≤ Y[i].2.x.step := by omega
    have hs3 : (Y[i].2.x.step : Int) < Y[i].2.x.steps.length := by omega
    obtain ⟨b4, off4, e4, hb4, hs0, hs1⟩ := StpsAt.get HENT.out.1.1 HLT.out
    unfold sV at hs0
    rw [← HG.out] at hs0
    rw [← HND.out] at hs1
    have HS0 := hid hs0
    have HS1 := hid hs1
    clear hs0 hs1
    cases e1 : (by_.data.toList == Y[i].2.x.user)
    · cases e2 : (by_.data.toList == Y[i].2.x.by_)
      · cases hb : hasS gl gr
        · skip
          have E3 := hid (show apprC (absR Y) s.data.toList by_.data.toList gl now = 11 by rw [E.out, e1, e2, hb]; rfl)
          have E4 := hid (show apprU (absR Y) s.data.toList by_.data.toList gl now = absR Y by rw [E2.out, E3.out]; rfl)
          rw [E4.out, E3.out]
          clear h hl hst hz E E2 hk hinv hg hc e hgr hde
          rw [← ByteArray.toList_eq] at e1 e2
          go_enter Try.func30, Try.ntmps30
          go_wp2_with fail
          refine HP.out.mono ?_
          rintro e w1 ⟨rfl, k1⟩
          have K1 := hid k1
          obtain ⟨c0, d0, d1, d2, d3, d4, d5, d6, d7, d8, d9, d10⟩ := HCL.out w1 K1.out
          rw [e4] at d4
          have K2 := hid (K1.out.alloc (.cells #[.string ⟨Y[i].1.toArray⟩, .string ⟨Y[i].2.x.kind.toArray⟩, .string ⟨Y[i].2.x.user.toArray⟩, .string ⟨Y[i].2.x.by_.toArray⟩, .slice (some ⟨b4, off4, none⟩) Y[i].2.x.steps.length Y[i].2.sc, .int .i64 Y[i].2.x.until_, .int .i64 Y[i].2.x.step, .int .i64 Y[i].2.x.count, .slice Y[i].2.aa Y[i].2.x.appr.length Y[i].2.ac, .bool Y[i].2.x.rej, .bool Y[i].2.x.tak] 75 (0, 0)))
          have hbv := heap_alloc_new w1 (.cells #[.string ⟨Y[i].1.toArray⟩, .string ⟨Y[i].2.x.kind.toArray⟩, .string ⟨Y[i].2.x.user.toArray⟩, .string ⟨Y[i].2.x.by_.toArray⟩, .slice (some ⟨b4, off4, none⟩) Y[i].2.x.steps.length Y[i].2.sc, .int .i64 Y[i].2.x.until_, .int .i64 Y[i].2.x.step, .int .i64 Y[i].2.x.count, .slice Y[i].2.aa Y[i].2.x.appr.length Y[i].2.ac, .bool Y[i].2.x.rej, .bool Y[i].2.x.tak] 75 (0, 0))
          have hs0 := (K2.out.cell hb4 (by simp)).trans HS0.out
          have hgl2 := hgl.keptN K2.out
          have ha8 := HENT.out.2.1.keptN K2.out
          clear k1
          have HWI := hid (within_any (cap := gc) hgl2 ⟨gr.toArray⟩)
          rw [show hasS gl (⟨gr.toArray⟩ : ByteArray).data.toList = false from hb] at HWI
          clear hb
          go_wp2_with fail
          refine HWI.out.mono ?_
          rintro e w3 ⟨rfl, rfl⟩
          go_wp2_with fail
          go_ret
          exact ⟨rfl, RLeft.same HH.out K2.out⟩
        · cases hap : hasS Y[i].2.x.appr by_.data.toList
          · have E3 := hid (show apprC (absR Y) s.data.toList by_.data.toList gl now = 0 by rw [E.out, e1, e2, hb, hap]; rfl)
            have E4 := hid (show apprU (absR Y) s.data.toList by_.data.toList gl now = updU (absR Y) s.data.toList (apprX by_.data.toList) by rw [E2.out, E3.out]; rfl)
            rw [E4.out, E3.out]
            clear h hl hst hz E E2 hk hinv hg hc e hgr hde
            rw [← ByteArray.toList_eq] at e1 e2
            have hst8 : Y[i].2.x.step ≤ 8 := by omega
            have hcnt8 : Y[i].2.x.count ≤ 8 := by have := HINV.out.count HLT.out; have := (HINV.out.need _ (List.getElem_mem HLT.out)).2.2; omega
            go_enter Try.func30, Try.ntmps30
            go_wp2_with fail
            refine HP.out.mono ?_
            rintro e w1 ⟨rfl, k1⟩
            have K1 := hid k1
            obtain ⟨c0, d0, d1, d2, d3, d4, d5, d6, d7, d8, d9, d10⟩ := HCL.out w1 K1.out
            rw [e4] at d4
            have K2 := hid (K1.out.alloc (.cells #[.string ⟨Y[i].1.toArray⟩, .string ⟨Y[i].2.x.kind.toArray⟩, .string ⟨Y[i].2.x.user.toArray⟩, .string ⟨Y[i].2.x.by_.toArray⟩, .slice (some ⟨b4, off4, none⟩) Y[i].2.x.steps.length Y[i].2.sc, .int .i64 Y[i].2.x.until_, .int .i64 Y[i].2.x.step, .int .i64 Y[i].2.x.count, .slice Y[i].2.aa Y[i].2.x.appr.length Y[i].2.ac, .bool Y[i].2.x.rej, .bool Y[i].2.x.tak] 75 (0, 0)))
            have hbv := heap_alloc_new w1 (.cells #[.string ⟨Y[i].1.toArray⟩, .string ⟨Y[i].2.x.kind.toArray⟩, .string ⟨Y[i].2.x.user.toArray⟩, .string ⟨Y[i].2.x.by_.toArray⟩, .slice (some ⟨b4, off4, none⟩) Y[i].2.x.steps.length Y[i].2.sc, .int .i64 Y[i].2.x.until_, .int .i64 Y[i].2.x.step, .int .i64 Y[i].2.x.count, .slice Y[i].2.aa Y[i].2.x.appr.length Y[i].2.ac, .bool Y[i].2.x.rej, .bool Y[i].2.x.tak] 75 (0, 0))
            have hs0 := (K2.out.cell hb4 (by simp)).trans HS0.out
            have hgl2 := hgl.keptN K2.out
            have ha8 := HENT.out.2.1.keptN K2.out
            clear k1
            have HWI := hid (within_any (cap := gc) hgl2 ⟨gr.toArray⟩)
            rw [show hasS gl (⟨gr.toArray⟩ : ByteArray).data.toList = true from hb] at HWI
            have HWA := hid (within_any (cap := Y[i].2.ac) ha8 by_)
            rw [hap] at HWA
            clear hb hap
            go_wp2_with fail
            refine HWI.out.mono ?_
            rintro e w3 ⟨rfl, rfl⟩
            go_wp2_with fail
            refine HWA.out.mono ?_
            rintro e w3 ⟨rfl, rfl⟩
            obtain ⟨w2, HW2⟩ : ∃ w2, Hid (w2 = w1.alloc (.cells #[.string ⟨Y[i].1.toArray⟩, .string ⟨Y[i].2.x.kind.toArray⟩, .string ⟨Y[i].2.x.user.toArray⟩, .string ⟨Y[i].2.x.by_.toArray⟩, .slice (some ⟨b4, off4, none⟩) Y[i].2.x.steps.length Y[i].2.sc, .int .i64 Y[i].2.x.until_, .int .i64 Y[i].2.x.step, .int .i64 Y[i].2.x.count, .slice Y[i].2.aa Y[i].2.x.appr.length Y[i].2.ac, .bool Y[i].2.x.rej, .bool Y[i].2.x.tak] 75 (0, 0))) := ⟨_, hid rfl⟩
            rw [← HW2.out] at hbv hs0 ha8 hgl2 K2 ⊢
            have hvs := hid (show w1.heap.size < w2.heap.size from lt_of_heap hbv)
            obtain ⟨M, HM⟩ : ∃ M, Hid (M = Y[i].2.x.appr ++ [by_.data.toList]) := ⟨_, hid rfl⟩
            have K3 := hid ((Kept.refl [] w2).alloc (.cells #[] 9 (0, 0)))
            have ha9 := ha8.keptN K3.out
            have hb2v := K3.out.at hbv (by simp)
            obtain ⟨u0, u1, u2, u3, u4, u5, u6, u7, u8, u9, u10⟩ := eleven hb2v
            clear HWI HWA u0 u1 u2 u3 u4 u5 u6 u7 u9 u10
            go_wp2_with (first
              | (at_builtin; refine wp_appL encSOk Try.underlying30 HM.out (o3.later ((Kept.refl [] _).alloc _)) (box_str _ by_ _) (show Y[i].2.x.appr.length + [by_.data.toList].length ≤ 1000000 by simp; omega) rfl _ _ rfl rfl rfl rfl rfl ?_; intro a4 c4 w4 o4 k4 f4; have hb4v := o4.kept.at hbv (by simp); obtain ⟨v0, v1, v2, v3, v4, v5, v6, v7, v8, v9, v10⟩ := eleven hb4v; have f6 := free_at hb4v 6; have f7 := free_at hb4v 7; have f8 := free_at hb4v 8)
              | (at_builtin; refine wp_appL encSOk Try.underlying30 (List.nil_append Y[i].2.x.appr).symm (OwnL.made w2) ha9 (show 0 + Y[i].2.x.appr.length ≤ 1000000 by omega) rfl _ _ rfl rfl rfl rfl rfl ?_; intro a3 c3 w3 o3 k3 f3; have hb3v := o3.kept.at hbv (by simp)))
            skip
            obtain ⟨w5, HW5⟩ : ∃ w5, Hid (w5 = (w4.setCell ⟨w1.heap.size, 8, none⟩ (.slice a4 M.length c4)).setCell ⟨w1.heap.size, 7, none⟩ (.int .i64 ((Y[i].2.x.count : Int) + 1))) := ⟨_, hid rfl⟩
            rw [← HW5.out]
            have hb5v : w5.heap[w1.heap.size]? = some (.cells #[.string ⟨Y[i].1.toArray⟩, .string ⟨Y[i].2.x.kind.toArray⟩, .string ⟨Y[i].2.x.user.toArray⟩, .string ⟨Y[i].2.x.by_.toArray⟩, .slice (some ⟨b4, off4, none⟩) Y[i].2.x.steps.length Y[i].2.sc, .int .i64 Y[i].2.x.until_, .int .i64 Y[i].2.x.step, .int .i64 ((Y[i].2.x.count : Int) + 1), .slice a4 M.length c4, .bool Y[i].2.x.rej, .bool Y[i].2.x.tak] 75 (0, 0)) := by rw [HW5.out]; exact heap_setCell_same _ _ 7 _ _ _ (heap_setCell_same _ _ 8 _ _ _ hb4v)
            have K5 := hid (show Kept [w1.heap.size] w4 w5 by rw [HW5.out]; exact ((Kept.refl [w1.heap.size] w4).setCell (.inl (by simp)) _).setCell (.inl (by simp)) _)
            have O4 := hid o4
            have K25 := hid ((K2.out.step o4.kept (by simp)).trans K5.out (fun j hj => .inr (by simp at hj; subst hj; exact K1.out.size)))
            have hs5 := (K25.out.cell hb4 (by simp)).trans HS1.out
            have HLB := hid (fun wq (kq : Kept [w1.heap.size] w4 wq) => (LB.of encSOk o4).kept kq (fun j hj hm => by simp at hm; have := o4.new j hj; have := hvs.out; omega))
            clear v0 v1 v2 v3 v4 v5 v6 v7 v8 v9 v10 f6 f7 f8 hb4v hb3v hb2v u8 hbv hs0 hgl2 ha8 ha9 k3 f3 k4 f4 o4 o3 hgl
            obtain ⟨v0, v1, v2, v3, v4, v5, v6, v7, v8, v9, v10⟩ := eleven hb5v
            have f6 := free_at hb5v 6
            have f7 := free_at hb5v 7
            clear v0 v1 v2 v3 v5 v8 v9 v10
            obtain ⟨nd, HNE⟩ : ∃ nd, Hid (nd = needX Y[i].2.x) := ⟨_, hid rfl⟩
            rw [← HNE.out] at hs5
            by_cases hN : (Y[i].2.x.count : Int) + 1 = nd
            · have hbn : (((Y[i].2.x.count : Int) + 1) == nd) = true := by rw [beq_iff_eq]; exact hN
              have HX4 := hid (show apprX by_.data.toList Y[i].2.x = { Y[i].2.x with appr := M, count := 0, step := Y[i].2.x.step + 1 } by unfold apprX; rw [if_pos (by rw [← HNE.out]; exact hN), ← HM.out])
              clear hN
              go_quiet (fail)
              go_wp2_with fail
              obtain ⟨w6, HW6⟩ : ∃ w6, Hid (w6 = ((w5.drewN nq).setCell ⟨w1.heap.size, 6, none⟩ (.int .i64 ((Y[i].2.x.step : Int) + 1))).setCell ⟨w1.heap.size, 7, none⟩ (.int .i64 0)) := ⟨_, hid rfl⟩
              rw [← HW6.out]
              have hb6v : w6.heap[w1.heap.size]? = some (.cells #[.string ⟨Y[i].1.toArray⟩, .string ⟨Y[i].2.x.kind.toArray⟩, .string ⟨Y[i].2.x.user.toArray⟩, .string ⟨Y[i].2.x.by_.toArray⟩, .slice (some ⟨b4, off4, none⟩) Y[i].2.x.steps.length Y[i].2.sc, .int .i64 Y[i].2.x.until_, .int .i64 ((Y[i].2.x.step : Int) + 1), .int .i64 0, .slice a4 M.length c4, .bool Y[i].2.x.rej, .bool Y[i].2.x.tak] 75 (0, 0)) := by rw [HW6.out]; exact heap_setCell_same _ _ 7 _ _ _ (heap_setCell_same _ _ 6 _ _ _ (((Kept.refl [] w5).drewN nq).at hb5v (by simp)))
              have K6 := hid (show Kept [w1.heap.size] w4 w6 by rw [HW6.out]; exact (((K5.out.drewN nq).setCell (.inl (by simp)) _).setCell (.inl (by simp)) _))
              have K26 := hid ((K2.out.step O4.out.kept (by simp)).trans K6.out (fun j hj => .inr (by simp at hj; subst hj; exact K1.out.size)))
              obtain ⟨c0', g0, g1, g2, g3, g4, g5, g6, g7, g8, g9, g10⟩ := HCL.out w6 K26.out
              clear v4 v6 v7 f6 f7 hs5 hb5v c0 d0 d1 d2 d3 d4 d5 d6 d7 d8 d9 d10
              obtain ⟨v0, v1, v2, v3, v4, v5, v6, v7, v8, v9, v10⟩ := eleven hb6v
              clear hb6v
              have hgz := K26.out.at HHG.out (by simp)
              have z0 := free_at hgz (i * 11)
              have z1 := free_at hgz (i * 11 + 1)
              have z2 := free_at hgz (i * 11 + 2)
              have z3 := free_at hgz (i * 11 + 3)
              have z4 := free_at hgz (i * 11 + 4)
              have z5 := free_at hgz (i * 11 + 5)
              have z6 := free_at hgz (i * 11 + 6)
              have z7 := free_at hgz (i * 11 + 7)
              have z8 := free_at hgz (i * 11 + 8)
              have z9 := free_at hgz (i * 11 + 9)
              have z10 := free_at hgz (i * 11 + 10)
              go_still_tail 7, (by kernel_rfl)
              change wpList _ _ _ _ _ w6.drew
              go_wp2_with fail
              go_ret
              refine ⟨rfl, ?_⟩
              rw [← HK.out]
              refine HH.out.set11 hi K26.out _ _ _ _ _ _ _ _ _ _ _ (Y[i].1, { Y[i].2 with aa := a4, ac := c4, x := { Y[i].2.x with appr := M, count := 0, step := Y[i].2.x.step + 1 } }) (by rw [← e4]; rfl) rfl ⟨HENT.out.1.keptN K26.out, HLB.out w6 K6.out⟩ (fun j hj => hj.elim (fun e => .inl (.inl e)) (fun e => .inr (Nat.le_trans K2.out.size (O4.out.new j e)))) ?_ HX4.out.symm
              have hv := HINV.out.appr_ HLT.out by_.data.toList
              rw [HX4.out] at hv
              exact hv
            · have hbn : (((Y[i].2.x.count : Int) + 1) == nd) = false := by rw [beq_eq_false_iff_ne]; exact hN
              have HX4 := hid (show apprX by_.data.toList Y[i].2.x = { Y[i].2.x with appr := M, count := Y[i].2.x.count + 1 } by unfold apprX; rw [if_neg (by rw [← HNE.out]; exact hN), ← HM.out])
              clear hN
              go_quiet (fail)
              go_wp2_with fail
              obtain ⟨w6, HW6⟩ : ∃ w6, Hid (w6 = w5.drewN nq) := ⟨_, hid rfl⟩
              rw [← HW6.out]
              have hb6v : w6.heap[w1.heap.size]? = some (.cells #[.string ⟨Y[i].1.toArray⟩, .string ⟨Y[i].2.x.kind.toArray⟩, .string ⟨Y[i].2.x.user.toArray⟩, .string ⟨Y[i].2.x.by_.toArray⟩, .slice (some ⟨b4, off4, none⟩) Y[i].2.x.steps.length Y[i].2.sc, .int .i64 Y[i].2.x.until_, .int .i64 Y[i].2.x.step, .int .i64 ((Y[i].2.x.count : Int) + 1), .slice a4 M.length c4, .bool Y[i].2.x.rej, .bool Y[i].2.x.tak] 75 (0, 0)) := by rw [HW6.out]; exact ((Kept.refl [] w5).drewN nq).at hb5v (by simp)
              have K6 := hid (show Kept [w1.heap.size] w4 w6 by rw [HW6.out]; exact K5.out.drewN nq)
              have K26 := hid ((K2.out.step O4.out.kept (by simp)).trans K6.out (fun j hj => .inr (by simp at hj; subst hj; exact K1.out.size)))
              obtain ⟨c0', g0, g1, g2, g3, g4, g5, g6, g7, g8, g9, g10⟩ := HCL.out w6 K26.out
              clear v4 v6 v7 f6 f7 hs5 hb5v c0 d0 d1 d2 d3 d4 d5 d6 d7 d8 d9 d10
              obtain ⟨v0, v1, v2, v3, v4, v5, v6, v7, v8, v9, v10⟩ := eleven hb6v
              clear hb6v
              have hgz := K26.out.at HHG.out (by simp)
              have z0 := free_at hgz (i * 11)
              have z1 := free_at hgz (i * 11 + 1)
              have z2 := free_at hgz (i * 11 + 2)
              have z3 := free_at hgz (i * 11 + 3)
              have z4 := free_at hgz (i * 11 + 4)
              have z5 := free_at hgz (i * 11 + 5)
              have z6 := free_at hgz (i * 11 + 6)
              have z7 := free_at hgz (i * 11 + 7)
              have z8 := free_at hgz (i * 11 + 8)
              have z9 := free_at hgz (i * 11 + 9)
              have z10 := free_at hgz (i * 11 + 10)
              go_still_tail 7, (by kernel_rfl)
              change wpList _ _ _ _ _ w6.drew
              go_wp2_with fail
              go_ret
              refine ⟨rfl, ?_⟩
              rw [← HK.out]
              refine HH.out.set11 hi K26.out _ _ _ _ _ _ _ _ _ _ _ (Y[i].1, { Y[i].2 with aa := a4, ac := c4, x := { Y[i].2.x with appr := M, count := Y[i].2.x.count + 1 } }) (by rw [← e4]; rfl) rfl ⟨HENT.out.1.keptN K26.out, HLB.out w6 K6.out⟩ (fun j hj => hj.elim (fun e => .inl (.inl e)) (fun e => .inr (Nat.le_trans K2.out.size (O4.out.new j e)))) ?_ HX4.out.symm
              have hv := HINV.out.appr_ HLT.out by_.data.toList
              rw [HX4.out] at hv
              exact hv
          · skip
            have E3 := hid (show apprC (absR Y) s.data.toList by_.data.toList gl now = 7 by rw [E.out, e1, e2, hb, hap]; rfl)
            have E4 := hid (show apprU (absR Y) s.data.toList by_.data.toList gl now = absR Y by rw [E2.out, E3.out]; rfl)
            rw [E4.out, E3.out]
            clear h hl hst hz E E2 hk hinv hg hc e hgr hde
            rw [← ByteArray.toList_eq] at e1 e2
            go_enter Try.func30, Try.ntmps30
            go_wp2_with fail
            refine HP.out.mono ?_
            rintro e w1 ⟨rfl, k1⟩
            have K1 := hid k1
            obtain ⟨c0, d0, d1, d2, d3, d4, d5, d6, d7, d8, d9, d10⟩ := HCL.out w1 K1.out
            rw [e4] at d4
            have K2 := hid (K1.out.alloc (.cells #[.string ⟨Y[i].1.toArray⟩, .string ⟨Y[i].2.x.kind.toArray⟩, .string ⟨Y[i].2.x.user.toArray⟩, .string ⟨Y[i].2.x.by_.toArray⟩, .slice (some ⟨b4, off4, none⟩) Y[i].2.x.steps.length Y[i].2.sc, .int .i64 Y[i].2.x.until_, .int .i64 Y[i].2.x.step, .int .i64 Y[i].2.x.count, .slice Y[i].2.aa Y[i].2.x.appr.length Y[i].2.ac, .bool Y[i].2.x.rej, .bool Y[i].2.x.tak] 75 (0, 0)))
            have hbv := heap_alloc_new w1 (.cells #[.string ⟨Y[i].1.toArray⟩, .string ⟨Y[i].2.x.kind.toArray⟩, .string ⟨Y[i].2.x.user.toArray⟩, .string ⟨Y[i].2.x.by_.toArray⟩, .slice (some ⟨b4, off4, none⟩) Y[i].2.x.steps.length Y[i].2.sc, .int .i64 Y[i].2.x.until_, .int .i64 Y[i].2.x.step, .int .i64 Y[i].2.x.count, .slice Y[i].2.aa Y[i].2.x.appr.length Y[i].2.ac, .bool Y[i].2.x.rej, .bool Y[i].2.x.tak] 75 (0, 0))
            have hs0 := (K2.out.cell hb4 (by simp)).trans HS0.out
            have hgl2 := hgl.keptN K2.out
            have ha8 := HENT.out.2.1.keptN K2.out
            clear k1
            have HWI := hid (within_any (cap := gc) hgl2 ⟨gr.toArray⟩)
            rw [show hasS gl (⟨gr.toArray⟩ : ByteArray).data.toList = true from hb] at HWI
            have HWA := hid (within_any (cap := Y[i].2.ac) ha8 by_)
            rw [hap] at HWA
            clear hb hap
            go_wp2_with fail
            refine HWI.out.mono ?_
            rintro e w3 ⟨rfl, rfl⟩
            go_wp2_with fail
            refine HWA.out.mono ?_
            rintro e w3 ⟨rfl, rfl⟩
            go_wp2_with fail
            go_ret
            exact ⟨rfl, RLeft.same HH.out K2.out⟩
      · skip
        have E3 := hid (show apprC (absR Y) s.data.toList by_.data.toList gl now = 11 by rw [E.out, e1, e2]; rfl)
        have E4 := hid (show apprU (absR Y) s.data.toList by_.data.toList gl now = absR Y by rw [E2.out, E3.out]; rfl)
        rw [E4.out, E3.out]
        clear h hl hst hz E E2 hk hinv hg hc e hgr hde
        rw [← ByteArray.toList_eq] at e1 e2
        go_enter Try.func30, Try.ntmps30
        go_wp2_with fail
        refine HP.out.mono ?_
        rintro e w1 ⟨rfl, k1⟩
        have K1 := hid k1
        obtain ⟨c0, d0, d1, d2, d3, d4, d5, d6, d7, d8, d9, d10⟩ := HCL.out w1 K1.out
        rw [e4] at d4
        have K2 := hid (K1.out.alloc (.cells #[.string ⟨Y[i].1.toArray⟩, .string ⟨Y[i].2.x.kind.toArray⟩, .string ⟨Y[i].2.x.user.toArray⟩, .string ⟨Y[i].2.x.by_.toArray⟩, .slice (some ⟨b4, off4, none⟩) Y[i].2.x.steps.length Y[i].2.sc, .int .i64 Y[i].2.x.until_, .int .i64 Y[i].2.x.step, .int .i64 Y[i].2.x.count, .slice Y[i].2.aa Y[i].2.x.appr.length Y[i].2.ac, .bool Y[i].2.x.rej, .bool Y[i].2.x.tak] 75 (0, 0)))
        have hbv := heap_alloc_new w1 (.cells #[.string ⟨Y[i].1.toArray⟩, .string ⟨Y[i].2.x.kind.toArray⟩, .string ⟨Y[i].2.x.user.toArray⟩, .string ⟨Y[i].2.x.by_.toArray⟩, .slice (some ⟨b4, off4, none⟩) Y[i].2.x.steps.length Y[i].2.sc, .int .i64 Y[i].2.x.until_, .int .i64 Y[i].2.x.step, .int .i64 Y[i].2.x.count, .slice Y[i].2.aa Y[i].2.x.appr.length Y[i].2.ac, .bool Y[i].2.x.rej, .bool Y[i].2.x.tak] 75 (0, 0))
        have hs0 := (K2.out.cell hb4 (by simp)).trans HS0.out
        have hgl2 := hgl.keptN K2.out
        have ha8 := HENT.out.2.1.keptN K2.out
        clear k1
        go_wp2_with fail
        go_ret
        exact ⟨rfl, RLeft.same HH.out K2.out⟩
    · skip
      have E3 := hid (show apprC (absR Y) s.data.toList by_.data.toList gl now = 11 by rw [E.out, e1]; rfl)
      have E4 := hid (show apprU (absR Y) s.data.toList by_.data.toList gl now = absR Y by rw [E2.out, E3.out]; rfl)
      rw [E4.out, E3.out]
      clear h hl hst hz E E2 hk hinv hg hc e hgr hde
      rw [← ByteArray.toList_eq] at e1
      go_enter Try.func30, Try.ntmps30
      go_wp2_with fail
      refine HP.out.mono ?_
      rintro e w1 ⟨rfl, k1⟩
      have K1 := hid k1
      obtain ⟨c0, d0, d1, d2, d3, d4, d5, d6, d7, d8, d9, d10⟩ := HCL.out w1 K1.out
      rw [e4] at d4
      have K2 := hid (K1.out.alloc (.cells #[.string ⟨Y[i].1.toArray⟩, .string ⟨Y[i].2.x.kind.toArray⟩, .string ⟨Y[i].2.x.user.toArray⟩, .string ⟨Y[i].2.x.by_.toArray⟩, .slice (some ⟨b4, off4, none⟩) Y[i].2.x.steps.length Y[i].2.sc, .int .i64 Y[i].2.x.until_, .int .i64 Y[i].2.x.step, .int .i64 Y[i].2.x.count, .slice Y[i].2.aa Y[i].2.x.appr.length Y[i].2.ac, .bool Y[i].2.x.rej, .bool Y[i].2.x.tak] 75 (0, 0)))
      have hbv := heap_alloc_new w1 (.cells #[.string ⟨Y[i].1.toArray⟩, .string ⟨Y[i].2.x.kind.toArray⟩, .string ⟨Y[i].2.x.user.toArray⟩, .string ⟨Y[i].2.x.by_.toArray⟩, .slice (some ⟨b4, off4, none⟩) Y[i].2.x.steps.length Y[i].2.sc, .int .i64 Y[i].2.x.until_, .int .i64 Y[i].2.x.step, .int .i64 Y[i].2.x.count, .slice Y[i].2.aa Y[i].2.x.appr.length Y[i].2.ac, .bool Y[i].2.x.rej, .bool Y[i].2.x.tak] 75 (0, 0))
      have hs0 := (K2.out.cell hb4 (by simp)).trans HS0.out
      have hgl2 := hgl.keptN K2.out
      have ha8 := HENT.out.2.1.keptN K2.out
      clear k1
      go_wp2_with fail
      go_ret
      exact ⟨rfl, RLeft.same HH.out K2.out⟩
  · have E := hid (show apprC (absR Y) s.data.toList by_.data.toList gl now = pendC (absR Y) s.data.toList now by unfold apprC; rw [if_neg hz])
    have E2 := hid (show apprU (absR Y) s.data.toList by_.data.toList gl now = absR Y by unfold apprU; rw [E.out, if_neg hz])
    have HH := hid h
    rw [E2.out, E.out]
    have hne : (pendC (absR Y) s.data.toList now != 0) = true := by simpa using hz
    generalize pendC (absR Y) s.data.toList now = c at *
    clear h hz
    go_enter Try.func30, Try.ntmps30
    go_wp2_with fail
    refine HP.out.mono ?_
    rintro e w1 ⟨rfl, k1⟩
    have K1 := hid k1
    clear k1
    go_wp2_with fail
    go_ret
    exact ⟨rfl, RLeft.same HH.out K1.out⟩
end Go.Proofs.Ytionejokdfgmhaa
