/- until, Touch of the reference. Printed by gen_sref4.py. -/
import Derived.Test.YtakccoiecmibcaaRef3
import Derived.Deep.RegionLaw
import Derived.StillTailTactics
namespace Go.Proofs.Ytakccoiecmibcaa
open Go.RowKit Go.Maps

set_option maxHeartbeats 2000000 in
set_option maxRecDepth 100000 in
theorem runtil_any {w : World} {qb : Nat} {idle abs : Int} (c1 : w.cell? ⟨qb, 1, none⟩ = some (.int .i64 idle)) (c2 : w.cell? ⟨qb, 2, none⟩ = some (.int .i64 abs)) (s0 s1 s2 s3 : ByteArray) (started seen un : Int) (pa ca : Option Addr) (pn pc cn cc : Nat) :
    Calls Try.prog 65 #[.pointer (some ⟨qb, 0, none⟩), .agg #[.string s0, .string s1, .string s2, .string s3, .int .i64 started, .int .i64 seen, .int .i64 un, .slice pa pn pc, .slice ca cn cc]] w fun e w' => e = .returned (.int .i64 (min (addI seen idle) (addI started abs))) ∧ Kept [] w w' := by
  have k1 := (Kept.refl [] w).alloc (.cells #[.string s0, .string s1, .string s2, .string s3, .int .i64 started, .int .i64 seen, .int .i64 un, .slice pa pn pc, .slice ca cn cc] 33 (0, 0))
  have hb := heap_alloc_new w (.cells #[.string s0, .string s1, .string s2, .string s3, .int .i64 started, .int .i64 seen, .int .i64 un, .slice pa pn pc, .slice ca cn cc] 33 (0, 0))
  have e1 := (k1.cell (World.block_lt_of_cell? w _ c1) (by simp)).trans c1
  have e2 := (k1.cell (World.block_lt_of_cell? w _ c2) (by simp)).trans c2
  obtain ⟨w2, HW2⟩ : ∃ w2, Hid (w2 = w.alloc (.cells #[.string s0, .string s1, .string s2, .string s3, .int .i64 started, .int .i64 seen, .int .i64 un, .slice pa pn pc, .slice ca cn cc] 33 (0, 0))) := ⟨_, hid rfl⟩
  rw [← HW2.out] at k1 hb e1 e2
  have K1 := hid k1
  obtain ⟨a0, a1, a2, a3, a4, a5, a6, a7, a8, _⟩ := nine_cells hb
  have HA := hid (fun t d n => Calls.quiet_of_same (n := n) (w := w2) ((radd_any t d (w2.drewN n)).mono fun _ _ h => ⟨h.1, h.2.symm⟩))
  have b1 := addI_bd seen idle
  have b2 := addI_bd started abs
  clear c1 c2 k1 hb
  go_enter Try.func65, Try.ntmps65
  go_wp2_with fail
  rw [← HW2.out]
  go_quiet ((go_at_call 82; with_reducible exact HA.out _ _ _))
  go_wp2_with fail
  all_goals (go_ret; exact ⟨ret_int (by omega), K1.out.drewN _⟩)

/-! ### Touch -/
set_option maxHeartbeats 16000000 in
set_option maxRecDepth 100000 in
theorem rtouch_any {w : World} {qb : Nat} {idle abs : Int} {a : Option Addr} {cap : Nat} {Y : List EP} (h : RefAt w qb idle abs a cap Y) (s : ByteArray) (now : Int) :
    Calls Try.prog 43 #[.pointer (some ⟨qb, 0, none⟩), .string s, .int .i64 now] w fun e w' => e = .returned (.int .i64 (findC (absK Y) s.data.toList now)) ∧ RLeft w w' qb idle abs a Y (touchU idle abs (absK Y) s.data.toList now) := by
  have HF := hid (rlive_any h s now)
  have hfew := h.few
  have HH := hid h
  by_cases hz : findC (absK Y) s.data.toList now = 0
  · obtain ⟨i, hi, hv, hk, hl, hen, hun⟩ := rlive hz
    rw [hz, hv] at HF
    have E := hid (show touchU idle abs (absK Y) s.data.toList now = updU (absK Y) Y[i].id (touchX idle abs now) by unfold touchU; rw [if_pos hz, hk])
    rw [E.out, hz]
    obtain ⟨g, cur, rfl, hg, hcs, hnc, hc⟩ := h.get hi
    have hi1 : (0 : Int) ≤ i := by omega
    have hi2 : (i : Int) < Y.length := by omega
    have hin := h.good.inv (Y[i].id, Y[i].x) (List.mem_map.2 ⟨Y[i], List.getElem_mem hi, rfl⟩)
    have HI := hid (hin.touch now)
    have HKL := hid (h.each _ (List.getElem_mem hi))
    have HGC := hid (fun wq (k : Kept [] w wq) => (show EC wq g (i * 10) Y[i] by obtain ⟨g', _, e, _, _, _, hc'⟩ := (HH.out.keptN k).get hi; injection e with e; injection e with e; subst e; exact hc'))
    have HFR := hid (fun wq (k : Kept [] w wq) (j : Nat) => (HH.out.keptN k).free j (by omega))
    have HSET := hid (fun w6 (k6 : Kept [] w w6) => h.set9 hi k6 (.string ⟨Y[i].id.toArray⟩) (.string ⟨Y[i].x.user.toArray⟩) (.string ⟨Y[i].x.tenant.toArray⟩) (.string ⟨Y[i].x.device.toArray⟩) (.int .i64 Y[i].x.started) (.int .i64 (max Y[i].x.seen (lim now))) (.int .i64 (min (addI (max Y[i].x.seen (lim now)) idle) (addI Y[i].x.started abs))) (.slice Y[i].pa Y[i].x.proofs.length Y[i].pc) (.slice Y[i].ca Y[i].x.clients.length Y[i].cc) { Y[i] with x := touchX idle abs now Y[i].x } rfl rfl (HKL.out.keptN k6) (fun j hj => .inl hj) (f := touchX idle abs now) rfl HI.out)
    have HC3 := hid (fun wq (k : Kept [] w wq) => (HH.out.keptN k).c3)
    have HQB := hid (lt_of_heap h.blk)
    have hb := lim_bd now
    have hst := hin.start
    clear h hz hv hk hl hen hun hin hc hg E
    generalize Y[i] = y at *
    go_enter Try.func43, Try.ntmps43
    go_wp2_with fail
    refine HF.out.mono ?_
    rintro e w1 ⟨rfl, hd⟩
    have HD := hid hd.kept
    obtain ⟨d0, d1, d2, d3, d4, d5, d6, d7, d8, d9⟩ := HGC.out w1 hd.kept
    have c3 := HC3.out w1 hd.kept
    clear hd
    have hb2 := heap_alloc_new w1 (.cells #[.string ⟨y.id.toArray⟩, .string ⟨y.x.user.toArray⟩, .string ⟨y.x.tenant.toArray⟩, .string ⟨y.x.device.toArray⟩, .int .i64 y.x.started, .int .i64 y.x.seen, .int .i64 y.x.until_, .slice y.pa y.x.proofs.length y.pc, .slice y.ca y.x.clients.length y.cc] 33 (0, 0))
    have hk2 := HD.out.alloc (.cells #[.string ⟨y.id.toArray⟩, .string ⟨y.x.user.toArray⟩, .string ⟨y.x.tenant.toArray⟩, .string ⟨y.x.device.toArray⟩, .int .i64 y.x.started, .int .i64 y.x.seen, .int .i64 y.x.until_, .slice y.pa y.x.proofs.length y.pc, .slice y.ca y.x.clients.length y.cc] 33 (0, 0))
    obtain ⟨b9, HBB⟩ : ∃ b, Hid (b = w1.heap.size) := ⟨_, hid rfl⟩
    obtain ⟨w2, HW2⟩ : ∃ v, Hid (v = w1.alloc (.cells #[.string ⟨y.id.toArray⟩, .string ⟨y.x.user.toArray⟩, .string ⟨y.x.tenant.toArray⟩, .string ⟨y.x.device.toArray⟩, .int .i64 y.x.started, .int .i64 y.x.seen, .int .i64 y.x.until_, .slice y.pa y.x.proofs.length y.pc, .slice y.ca y.x.clients.length y.cc] 33 (0, 0))) := ⟨_, hid rfl⟩
    rw [← HW2.out] at hb2 hk2
    rw [← HBB.out] at hb2
    have HB2 := hid hb2
    have HK2 := hid hk2
    have hbn : w.heap.size ≤ b9 := by rw [HBB.out]; exact HD.out.size
    go_wp2_with fail
    rw [← HW2.out, ← HBB.out]
    clear d0 d1 d2 d3 d4 d5 d6 d7 d8 d9 c3
    have v5 : w2.cell? ⟨b9, 5, none⟩ = some (.int .i64 y.x.seen) := by rw [cell_at HB2.out]; rfl
    have f5 := free_at HB2.out 5
    have HA := hid (fun wq : World => rlimited_any now wq)
    have HB3 := hid (((Kept.refl [] _).drew).at (heap_setCell_same w2 b9 5 _ _ (.int .i64 (max y.x.seen (lim now))) HB2.out) (by simp))
    have HK3 := hid ((hk2.setCell (p := ⟨b9, 5, none⟩) (.inr hbn) (.int .i64 (max y.x.seen (lim now)))).drew)
    clear hb2 hk2
    go_region_with (go_at_call 40; refine (HA.out _).mono ?_; rintro e w3 ⟨rfl, rfl⟩)
    all_goals (
      obtain ⟨w3, HW3⟩ : ∃ v, Hid (v = (w2.setCell ⟨b9, 5, none⟩ (.int .i64 (max y.x.seen (lim now)))).drew) := ⟨_, hid rfl⟩
      have hb3 := HB3.out
      have hk3 := HK3.out
      rw [← HW3.out] at hb3 hk3
      rw [← HW3.out]
      have HB3' := hid hb3
      have HK3' := hid hk3
      obtain ⟨v0, v1, v2, v3, v4, v5', v6, v7, v8, _⟩ := nine_cells hb3
      change w3.cell? ⟨b9, 5, none⟩ = some (.int .i64 (max y.x.seen (lim now))) at v5'
      have HUN := hid (runtil_any (HH.out.keptN hk3).c1 (HH.out.keptN hk3).c2 ⟨y.id.toArray⟩ ⟨y.x.user.toArray⟩ ⟨y.x.tenant.toArray⟩ ⟨y.x.device.toArray⟩ y.x.started (max y.x.seen (lim now)) y.x.until_ y.pa y.ca y.x.proofs.length y.pc y.x.clients.length y.cc)
      clear v5 f5 hb3 hk3
      go_wp2_with fail
      refine HUN.out.mono ?_
      rintro e w4 ⟨rfl, k4⟩
      have hb4 := k4.at HB3'.out (by simp)
      have g6 := free_at hb4 6
      have u6 : w4.cell? ⟨b9, 6, none⟩ = some (.int .i64 y.x.until_) := by rw [cell_at hb4]; rfl
      have hb5 := heap_setCell_same w4 b9 6 _ _ (.int .i64 (min (addI (max y.x.seen (lim now)) idle) (addI y.x.started abs))) hb4
      have HK5 := hid ((HK3'.out.step k4 (by simp)).setCell (p := ⟨b9, 6, none⟩) (.inr hbn) (.int .i64 (min (addI (max y.x.seen (lim now)) idle) (addI y.x.started abs))))
      obtain ⟨w5, HW5⟩ : ∃ v, Hid (v = w4.setCell ⟨b9, 6, none⟩ (.int .i64 (min (addI (max y.x.seen (lim now)) idle) (addI y.x.started abs)))) := ⟨_, hid rfl⟩
      rw [← HW5.out] at hb5 HK5
      have HB5 := hid hb5
      clear v0 v1 v2 v3 v4 v5' v6 v7 v8 hb4 hb5 k4
      go_wp2_with fail
      rw [← HW5.out]
      clear g6 u6
      obtain ⟨v0, v1, v2, v3, v4, v5', v6, v7, v8, _⟩ := nine_cells HB5.out
      change w5.cell? ⟨b9, 5, none⟩ = some (.int .i64 (max y.x.seen (lim now))) at v5'
      change w5.cell? ⟨b9, 6, none⟩ = some (.int .i64 (min (addI (max y.x.seen (lim now)) idle) (addI y.x.started abs))) at v6
      obtain ⟨d0, d1, d2, d3, d4, d5, d6, d7, d8, d9⟩ := HGC.out w5 HK5.out
      have c3 := HC3.out w5 HK5.out
      have z0 := HFR.out w5 HK5.out (i * 10)
      have z1 := HFR.out w5 HK5.out (i * 10 + 1)
      have z2 := HFR.out w5 HK5.out (i * 10 + 2)
      have z3 := HFR.out w5 HK5.out (i * 10 + 3)
      have z4 := HFR.out w5 HK5.out (i * 10 + 4)
      have z5 := HFR.out w5 HK5.out (i * 10 + 5)
      have z6 := HFR.out w5 HK5.out (i * 10 + 6)
      have z7 := HFR.out w5 HK5.out (i * 10 + 7)
      have z8 := HFR.out w5 HK5.out (i * 10 + 8)
      go_still_tail 8, (by kernel_rfl)
      change wpList _ _ _ _ _ w5.drew
      go_wp2_with fail
      go_ret
      exact ⟨rfl, HSET.out w5 HK5.out⟩)
  · have E := hid (show touchU idle abs (absK Y) s.data.toList now = absK Y by unfold touchU; rw [if_neg hz])
    have E2 := hid (show liveI Y s.data.toList now = -1 by unfold liveI; rw [if_neg hz])
    have hne : (findC (absK Y) s.data.toList now != 0) = true := by simpa using hz
    rw [E2.out] at HF
    rw [E.out]
    generalize findC (absK Y) s.data.toList now = c at *
    clear h hz
    go_enter Try.func43, Try.ntmps43
    go_wp2_with fail
    refine HF.out.mono ?_
    rintro e w1 ⟨rfl, hd⟩
    have HD := hid hd.kept
    clear hd
    go_wp2_with fail
    go_ret
    exact ⟨rfl, RLeft.same HH.out HD.out⟩

end Go.Proofs.Ytakccoiecmibcaa
