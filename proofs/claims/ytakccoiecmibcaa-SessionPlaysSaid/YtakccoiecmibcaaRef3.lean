/- Present, Of, Expire of the reference. Printed by gen_sref3.py. -/
import Derived.Test.YtakccoiecmibcaaIns
namespace Go.Proofs.Ytakccoiecmibcaa
open Go.RowKit Go.Maps

/-! ### Present -/
set_option maxHeartbeats 8000000 in
set_option maxRecDepth 100000 in
theorem rpresent_any {w : World} {qb : Nat} {idle abs : Int} {a : Option Addr} {cap : Nat} {Y : List EP} (h : RefAt w qb idle abs a cap Y) (s : ByteArray) (p : Prf) (now : Int) :
    Calls Try.prog 44 #[.pointer (some ⟨qb, 0, none⟩), .string s, prfV p, .int .i64 now] w fun e w' => e = .returned (.int .i64 (presC (absK Y) s.data.toList p now)) ∧ RLeft w w' qb idle abs a Y (presU (absK Y) s.data.toList p now) := by
  have hbx := heap_alloc_new w (.cells #[.int .i64 p.1, .int .i64 p.2] 59 (0, 0))
  have hk0 := (Kept.refl [] w).alloc (.cells #[.int .i64 p.1, .int .i64 p.2] 59 (0, 0))
  obtain ⟨w0, HW0⟩ : ∃ w0, Hid (w0 = w.alloc (.cells #[.int .i64 p.1, .int .i64 p.2] 59 (0, 0))) := ⟨_, hid rfl⟩
  rw [← HW0.out] at hbx hk0
  have HK0 := hid hk0
  have HB := hid hbx
  have h0 := h.keptN hk0
  have HF := hid (rlive_any h0 s now)
  have hfew := h.few
  by_cases hz : findC (absK Y) s.data.toList now = 0
  · obtain ⟨i, hi, hv, hk, hl, hen, hun⟩ := rlive hz
    have E0 := hid (show presC (absK Y) s.data.toList p now = addE p by unfold presC; rw [if_pos hz])
    rw [hz, hv] at HF
    obtain ⟨g, cur, rfl, hg, hcs, hnc, hc⟩ := h0.get hi
    have hi1 : (0 : Int) ≤ i := by omega
    have hi2 : (i : Int) < Y.length := by omega
    have H0 := hid h0
    have HH := hid h
    have hin := h.good.inv (Y[i].id, Y[i].x) (List.mem_map.2 ⟨Y[i], List.getElem_mem hi, rfl⟩)
    have hl4 : Y[i].x.proofs.length ≤ 4 := hin.prfs.few
    have HKL := hid (h0.each _ (List.getElem_mem hi))
    have HGC := hid (fun wq (k : Kept [] w0 wq) => (show EC wq g (i * 10) Y[i] by obtain ⟨g', _, e, _, _, _, hc'⟩ := (H0.out.keptN k).get hi; injection e with e; injection e with e; subst e; exact hc'))
    have HCELL := hid (fun wq (k : Kept [] w0 wq) => (show wq.cell? ⟨qb, 3, none⟩ = some (.slice (some ⟨g, 0, none⟩) Y.length cap) ∧ wq.cell? ⟨g, i * 10 + 7, none⟩ = some (.slice Y[i].pa Y[i].x.proofs.length Y[i].pc) ∧ wq.cell? ⟨w.heap.size, 0, none⟩ = some (.int .i64 p.1) ∧ wq.cell? ⟨w.heap.size, 1, none⟩ = some (.int .i64 p.2) from ⟨(H0.out.keptN k).c3, (HGC.out wq k).c7, by rw [cell_at (k.at HB.out (by simp))]; rfl, by rw [cell_at (k.at HB.out (by simp))]; rfl⟩))
    by_cases he : addE p = 0
    · have E := hid (show presU (absK Y) s.data.toList p now = updU (absK Y) Y[i].id (presX p) by unfold presU; rw [E0.out, if_pos he, hk])
      rw [E.out, E0.out, he]
      have HI := hid (hin.pres he)
      have HAD := hid (fun wq (k : Kept [] w0 wq) => (rpadd_any (cap := Y[i].pc) (HKL.out.keptN k).1.1 (by omega) p).mono fun _ _ h => h.ok he)
      have HSET := hid (fun w2 (k2 : Kept [] w w2) a2 c2 (M : List Prf) (hM : M = addL Y[i].x.proofs p) (hl : KL w2 { Y[i] with pa := a2, pc := c2, x := { Y[i].x with proofs := M } }) (hn : ∀ j ∈ fp a2, w.heap.size ≤ j) => h.set1 hi k2 7 (by omega) (.slice a2 M.length c2) { Y[i] with pa := a2, pc := c2, x := { Y[i].x with proofs := M } } rfl rfl hl (fun j hj => hj.elim (fun e => .inr (hn j e)) (fun e => .inl (.inr e))) (f := presX p) (by rw [hM]; rfl) HI.out)
      have HFR := hid (fun wq (k : Kept [] w0 wq) => (H0.out.keptN k).free (i * 10 + 7) (by omega))
      clear h h0 hv hz hk hl hen hun hin he hk0 hbx hc hg
      generalize Y[i] = y at *
      go_enter Try.func44, Try.ntmps44
      go_wp2_with fail
      rw [← HW0.out]
      refine HF.out.mono ?_
      rintro e w1 ⟨rfl, hd⟩
      have HD := hid hd.kept
      have HAD1 := hid (HAD.out _ (HD.out.drew))
      clear hd
      go_wp2_with fail
      go_region_held3 (fun w' => w'.cell? ⟨qb, 3, none⟩ = some (.slice (some ⟨g, 0, none⟩) Y.length cap) ∧ w'.cell? ⟨g, i * 10 + 7, none⟩ = some (.slice y.pa y.x.proofs.length y.pc) ∧ w'.cell? ⟨w.heap.size, 0, none⟩ = some (.int .i64 p.1) ∧ w'.cell? ⟨w.heap.size, 1, none⟩ = some (.int .i64 p.2))
        (first
          | exact HCELL.out _ (HD.out.drew.step o2.kept (by simp))
          | exact HCELL.out _ HD.out.drew)
        ((go_at_call 64; refine HAD1.out.mono ?_; rintro e w2 ⟨a2, c2, rfl, o2⟩))
      have HK2 := hid (HD.out.drew.step o2.kept (by simp))
      obtain ⟨e3, e7, _, _⟩ := HCELL.out _ HK2.out
      have f7 := HFR.out _ HK2.out
      have HO2 := hid o2
      obtain ⟨M, HM⟩ : ∃ M, Hid (addL y.x.proofs p = M) := ⟨_, hid rfl⟩
      rw [HM.out] at HO2
      rw [HM.out]
      clear o2
      go_wp2_with fail
      go_ret
      have hsz := HK0.out.size
      have hsz2 := HD.out.drew.size
      exact ⟨rfl, HSET.out w2 (HK0.out.step HK2.out (by simp)) a2 c2 M HM.out.symm ⟨LB.of encPOk HO2.out, (HKL.out.keptN HK2.out).2⟩ (fun j hj => by have := HO2.out.new j hj; omega)⟩
    · have E := hid (show presU (absK Y) s.data.toList p now = absK Y by unfold presU; rw [E0.out, if_neg he])
      rw [E.out, E0.out]
      have HAD := hid (fun wq (k : Kept [] w0 wq) => (rpadd_any (cap := Y[i].pc) (HKL.out.keptN k).1.1 (by omega) p).mono fun _ _ h => h.err he)
      have hne : (addE p != 0) = true := by simpa using he
      generalize addE p = c at *
      clear h h0 hv hz hk hl hen hun hin he hk0 hbx hc hg
      generalize Y[i] = y at *
      go_enter Try.func44, Try.ntmps44
      go_wp2_with fail
      rw [← HW0.out]
      refine HF.out.mono ?_
      rintro e w1 ⟨rfl, hd⟩
      have HD := hid hd.kept
      have HAD1 := hid (HAD.out _ (HD.out.drew))
      clear hd
      go_wp2_with fail
      go_region_held3 (fun w' => w'.cell? ⟨qb, 3, none⟩ = some (.slice (some ⟨g, 0, none⟩) Y.length cap) ∧ w'.cell? ⟨g, i * 10 + 7, none⟩ = some (.slice y.pa y.x.proofs.length y.pc) ∧ w'.cell? ⟨w.heap.size, 0, none⟩ = some (.int .i64 p.1) ∧ w'.cell? ⟨w.heap.size, 1, none⟩ = some (.int .i64 p.2))
        (first
          | exact HCELL.out _ (HD.out.drew.step k2 (by simp))
          | exact HCELL.out _ HD.out.drew)
        ((go_at_call 64; refine HAD1.out.mono ?_; rintro e w2 ⟨rfl, k2⟩))
      go_wp2_with fail
      go_ret
      exact ⟨rfl, RLeft.same HH.out (HK0.out.step (HD.out.drew.step k2 (by simp)) (by simp))⟩
  · have E0 := hid (show presC (absK Y) s.data.toList p now = findC (absK Y) s.data.toList now by unfold presC; rw [if_neg hz])
    have E := hid (show presU (absK Y) s.data.toList p now = absK Y by unfold presU; rw [E0.out, if_neg hz])
    have E2 := hid (show liveI Y s.data.toList now = -1 by unfold liveI; rw [if_neg hz])
    have hne : (findC (absK Y) s.data.toList now != 0) = true := by simpa using hz
    rw [E2.out] at HF
    rw [E.out, E0.out]
    have HH := hid h
    generalize findC (absK Y) s.data.toList now = c at *
    clear h h0 hz hk0 hbx
    go_enter Try.func44, Try.ntmps44
    go_wp2_with fail
    rw [← HW0.out]
    refine HF.out.mono ?_
    rintro e w1 ⟨rfl, hd⟩
    have HD := hid hd.kept
    clear hd
    go_wp2_with fail
    go_ret
    exact ⟨rfl, RLeft.same HH.out (HK0.out.step HD.out (by simp))⟩

/-! ### Of -/
theorem of_K (Y : List EP) (u : Str) (now : Int) : ofL (absK Y) u now = sortS ((Y.filter fun q => liveB q.x (lim now) && q.x.user == u).map (·.id)) := by
  unfold ofL absK
  rw [List.filter_map, List.map_map]
  rfl
theorem exp_K (Y : List EP) (now : Int) : expL (absK Y) now = sortS ((Y.filter fun q => expB q.x (lim now) && !q.x.ended).map (·.id)) := by
  unfold expL absK
  rw [List.filter_map, List.map_map]
  rfl
theorem expU_K (Y : List EP) (now : Int) : absK (Y.filter fun q => !(expB q.x (lim now))) = expU (absK Y) now := by
  unfold expU absK
  rw [List.filter_map]
  rfl
theorem id_new {Y : List EP} (hu : AUniq (absK Y)) {k : Nat} (hk : k < Y.length) (f : EP → Bool) : Y[k].id ∉ ((Y.take k).filter f).map (·.id) := by
  intro h
  obtain ⟨q, hq, e⟩ := List.mem_map.1 h
  obtain ⟨hq, _⟩ := List.mem_filter.1 hq
  obtain ⟨i, hi, rfl⟩ := List.getElem_of_mem hq
  have hik : i < k := by simp at hi; omega
  have := List.pairwise_iff_getElem.1 hu i k (by simp [absK]; omega) (by simpa [absK] using hk) hik
  simp [absK] at this
  rw [List.getElem_take] at e
  exact this e
theorem find_live {Y : List EP} (hu : AUniq (absK Y)) {k : Nat} (hk : k < Y.length) (now : Int) : findC (absK Y) Y[k].id now = 0 ↔ liveB Y[k].x (lim now) = true := by
  rw [find_of (alook_of_mem hu (show (Y[k].id, Y[k].x) ∈ absK Y from List.mem_map.2 ⟨Y[k], List.getElem_mem hk, rfl⟩))]
  unfold liveB
  simp
set_option maxHeartbeats 8000000 in
set_option maxRecDepth 100000 in
theorem rof_any {w : World} {qb : Nat} {idle abs : Int} {a : Option Addr} {cap : Nat} {Y : List EP} (h : RefAt w qb idle abs a cap Y) (u : ByteArray) (now : Int) :
    Calls Try.prog 26 #[.pointer (some ⟨qb, 0, none⟩), .string u, .int .i64 now] w fun e w' => Gives w w' e (ofL (absK Y) u.data.toList now) := by
  have c0 := h.c0
  have hfew := h.few
  have H := hid h
  rw [of_K]
  obtain ⟨f, HF⟩ : ∃ f : EP → Bool, Hid (f = fun q => liveB q.x (lim now) && q.x.user == u.data.toList) := ⟨_, hid rfl⟩
  rw [← HF.out]
  clear h
  go_enter Try.func26, Try.ntmps26
  go_wp2_with (go_at_call 49; refine (rmade_any c0).mono ?_; rintro e w' ⟨rfl, rfl⟩)
  go_loopw [7, 8] (fun v i wr => ∃ (k : Nat) (M : List Str) (a1 : Option Addr) (c1 : Nat), k ≤ Y.length ∧ i = .int .i64 k ∧ v = .slice a1 M.length c1 ∧ M = sortS (((Y.take k).filter f).map (·.id)) ∧ OwnL 9 1 encS w wr a1 c1 M) (fun _ i _ => Y.length - (intOf i).toNat)
  case atStart => exact ⟨0, [], none, 0, Nat.zero_le _, rfl, rfl, by simp [sortS], OwnL.start w⟩
  case round =>
    obtain ⟨k, M, a1, c1, hk, rfl, rfl, hM, ho⟩ := hrel
    have hr := H.out.keptN ho.kept
    have c3 := hr.c3
    have HMM := hid hM
    have hml : M.length ≤ k := by rw [hM, sortS_len, List.length_map]; exact Nat.le_trans (List.length_filter_le _ _) (by simp; omega)
    have HO := hid ho
    clear hM ho
    by_cases hlt : k < Y.length
    · obtain ⟨g, cur, rfl, hg, hcs, hnc, hc⟩ := hr.get hlt
      have hb1 : (0 : Int) ≤ k := by omega
      have hb2 : (k : Int) < Y.length := by omega
      have HT := hid (List.take_succ_eq_append_getElem hlt)
      have HV := hid (show f Y[k] = (liveB Y[k].x (lim now) && Y[k].x.user == u.data.toList) by rw [HF.out])
      have HID := hid (id_new H.out.good.uniq hlt f)
      have HFL := hid (find_live H.out.good.uniq hlt now)
      have HLV := hid (rlive_any hr ⟨Y[k].id.toArray⟩ now)
      change Hid (Calls Try.prog 48 _ wr fun e w' => e = .returned (.tuple #[.int .i64 (liveI Y Y[k].id now), .int .i64 (findC (absK Y) Y[k].id now)]) ∧ DrewN wr w') at HLV
      have HLT := hid hlt
      have HR := hid hr
      have HGC := hid (fun wq (kq : Kept [] wr wq) => (show EC wq g (k * 10) Y[k] by obtain ⟨g', _, e, _, _, _, hc'⟩ := (HR.out.keptN kq).get hlt; injection e with e; injection e with e; subst e; exact hc'))
      clear hg hr
      generalize Y[k] = y at *
      have d0 := hc.c0
      clear hc
      cases e1 : liveB y.x (lim now)
      · have hz : findC (absK Y) y.id now ≠ 0 := fun e => by rw [HFL.out.1 e] at e1; cases e1
        have hzb : (findC (absK Y) y.id now == 0) = false := by simpa using hz
        have HM2 := hid (show M = sortS (((Y.take (k + 1)).filter f).map (·.id)) by rw [HT.out, List.filter_append, List.map_append, List.filter_cons_of_neg (by rw [HV.out, e1]; simp), HMM.out]; simp)
        generalize findC (absK Y) y.id now = C at *
        generalize liveI Y y.id now = I at *
        clear hz e1
        go_wp2_with (go_at_call 48; refine HLV.out.mono ?_; rintro e w2 ⟨rfl, hd2⟩)
        go_roundw
        case rel => exact ⟨k + 1, M, a1, c1, by have := HLT.out; omega, by go_num, rfl, HM2.out, HO.out.later hd2.kept⟩
        case measure => simp [intOf]; omega
      · have hz := HFL.out.2 e1
        rw [hz] at HLV
        generalize liveI Y y.id now = I at *
        cases e2 : (y.x.user == u.data.toList)
        · have HM2 := hid (show M = sortS (((Y.take (k + 1)).filter f).map (·.id)) by rw [HT.out, List.filter_append, List.map_append, List.filter_cons_of_neg (by rw [HV.out, e1, e2]; simp), HMM.out]; simp)
          rw [← ByteArray.toList_eq] at e2
          clear hz e1
          go_wp2_with (go_at_call 48; refine HLV.out.mono ?_; rintro e w2 ⟨rfl, hd2⟩; have c3' := (HR.out.keptN hd2.kept).c3; have d1 := (HGC.out _ hd2.kept).c1)
          go_roundw
          case rel => exact ⟨k + 1, M, a1, c1, by have := HLT.out; omega, by go_num, rfl, HM2.out, HO.out.later hd2.kept⟩
          case measure => simp [intOf]; omega
        · have HM2 := hid (show insS M y.id = sortS (((Y.take (k + 1)).filter f).map (·.id)) by rw [HT.out, List.filter_append, List.map_append, List.filter_cons_of_pos (by rw [HV.out, e1, e2]; rfl), HMM.out]; exact ins_sort HID.out)
          have HINS := hid (fun wq (kq : Kept [] wr wq) => insert_any (cap := c1) ((HO.out.later kq).seq encSOk) (by omega) ⟨y.id.toArray⟩)
          change Hid (∀ wq (kq : Kept [] wr wq), Calls Try.prog 50 _ wq fun e w' => ∃ a' c', e = .returned (.slice a' (insS M y.id).length c') ∧ OwnL 9 1 encS wq w' a' c' (insS M y.id)) at HINS
          rw [← ByteArray.toList_eq] at e2
          generalize insS M y.id = M2 at *
          clear hz e1
          go_wp2_with (first
            | (go_at_call 50; refine (HINS.out _ hd2.kept).mono ?_; rintro e w3 ⟨a3, c3x, rfl, o3⟩)
            | (go_at_call 48; refine HLV.out.mono ?_; rintro e w2 ⟨rfl, hd2⟩; have c3' := (HR.out.keptN hd2.kept).c3; have d1 := (HGC.out _ hd2.kept).c1; have d0' := (HGC.out _ hd2.kept).c0))
          go_roundw
          case rel => exact ⟨k + 1, M2, a3, c3x, by have := HLT.out; omega, by go_num, rfl, HM2.out, o3.rebase (HO.out.kept.step hd2.kept (by simp))⟩
          case measure => simp [intOf]; omega
    · have HE := hid (show M = sortS ((Y.filter f).map (·.id)) by rw [HMM.out, List.take_of_length_le (by omega)])
      clear hr
      go_wp2_with fail
      go_ret
      rw [← HE.out]
      exact ⟨a1, c1, rfl, HO.out.seq encSOk, HO.out.new, HO.out.kept⟩

/-! ### Expire -/
/-- The header has been turned to a new row of some of the entries. -/
theorem RefAt.turn {w w1 : World} {qb : Nat} {idle abs : Int} {a a1 : Option Addr} {cap c1 : Nat} {Y : List EP} (h : RefAt w qb idle abs a cap Y) {M : List EP} (hk1 : Kept [] w w1) (ho : w1.ownsRow 0 87 10 (.slice a1 M.length c1) M.length (rowV encK M)) (hnew : ∀ i ∈ fp a1, w.heap.size ≤ i) (hs : M.Sublist Y) (hg : Good idle abs (absK M)) : RLeft w (w1.setCell ⟨qb, 3, none⟩ (.slice a1 M.length c1)) qb idle abs a Y (absK M) := by
  have h1 := h.keptN hk1
  have kq : Kept [qb] w1 (w1.setCell ⟨qb, 3, none⟩ (.slice a1 M.length c1)) := (Kept.refl [qb] w1).setCell (.inl (by simp)) _
  have hqw : qb < w.heap.size := lt_of_heap h.blk
  have hne : ∀ e, KL w1 e → ∀ j, j ∈ fp e.pa ∨ j ∈ fp e.ca → j ∉ [qb] := fun e he j hj hm => by
    obtain ⟨cur, t, hc, ht, ht2⟩ := he.blk j hj
    simp at hm
    subst hm
    rw [h1.blk] at hc
    injection hc with hc
    injection hc with _ hc _
    exact ht2 hc.symm
  refine ⟨a1, c1, M, ⟨heap_setCell_same _ _ 3 _ _ _ h1.blk, row_kept ho kq (fun i hi hm => ?_), fun e he => ?_, Nat.le_trans hs.length_le h.few, hg⟩, rfl, (hk1.mono (T := qb :: fp a) (by simp)).step kq (fun j hj => by simp at hj; simp [hj]), fun j hj => ?_⟩
  · simp at hm; subst hm; have := hnew _ hi; omega
  · have hE := h1.each e (hs.subset he)
    exact ⟨hE.1.kept kq (fun j hj => hne e hE j (.inl hj)), hE.2.kept kq (fun j hj => hne e hE j (.inr hj))⟩
  · rcases rdom_mem.1 hj with e | e | ⟨e, he, hd⟩
    · exact .inl (rdom_mem.2 (.inl e))
    · exact .inr (hnew j e)
    · exact .inl (rdom_mem.2 (.inr (.inr ⟨e, hs.subset he, hd⟩)))
set_option maxHeartbeats 8000000 in
set_option maxRecDepth 100000 in
theorem rexpire_any {w : World} {qb : Nat} {idle abs : Int} {a : Option Addr} {cap : Nat} {Y : List EP} (h : RefAt w qb idle abs a cap Y) (now : Int) :
    Calls Try.prog 47 #[.pointer (some ⟨qb, 0, none⟩), .int .i64 now] w fun e w' => (∃ la lc, e = .returned (.slice la (expL (absK Y) now).length lc) ∧ StrsAt w' la (expL (absK Y) now)) ∧ RLeft w w' qb idle abs a Y (expU (absK Y) now) := by
  have c0 := h.c0
  have hfew := h.few
  have H := hid h
  rw [exp_K, ← expU_K]
  obtain ⟨f, HF⟩ : ∃ f : EP → Bool, Hid (f = fun q => !(expB q.x (lim now))) := ⟨_, hid rfl⟩
  obtain ⟨g', HG⟩ : ∃ g : EP → Bool, Hid (g = fun q => expB q.x (lim now) && !q.x.ended) := ⟨_, hid rfl⟩
  have HGD := hid (show Good idle abs (absK (Y.filter f)) by rw [HF.out, expU_K]; exact ⟨List.Pairwise.filter _ h.good.uniq, fun p hp => h.good.inv p (List.mem_filter.1 hp).1, fun p hp => h.good.word p (List.mem_filter.1 hp).1⟩)
  rw [← HF.out, ← HG.out]
  clear h
  go_enter Try.func47, Try.ntmps47
  go_wp2_with (first
    | (go_at_call 49; refine (rmade_any c0).mono ?_; rintro e w' ⟨rfl, rfl⟩)
    | (go_at_call 40; refine (rlimited_any _ _).mono ?_; rintro e w' ⟨rfl, rfl⟩))
  go_loopw [5, 6, 7] (fun lv v i wr => ∃ (k : Nat) (L : List EP) (a1 : Option Addr) (c1 : Nat) (M : List Str) (a2 : Option Addr) (c2 : Nat), k ≤ Y.length ∧ i = .int .i64 k ∧ lv = .slice a1 L.length c1 ∧ v = .slice a2 M.length c2 ∧ L = (Y.take k).filter f ∧ M = sortS (((Y.take k).filter g').map (·.id)) ∧ OwnL 87 10 encK w wr a1 c1 L ∧ OwnL 9 1 encS w wr a2 c2 M ∧ ∀ i ∈ fp a2, i ∉ fp a1) (fun _ _ i _ => Y.length - (intOf i).toNat)
  case atStart => exact ⟨0, [], none, 0, [], none, 0, Nat.zero_le _, rfl, rfl, rfl, rfl, by simp [sortS], OwnL.start w, OwnL.start w, by simp [fp]⟩
  case round =>
    obtain ⟨k, L, a1, c1, M, a2, c2, hk, rfl, rfl, rfl, hL, hM, ho1, ho2, hdis⟩ := hrel
    have hr := H.out.keptN ho1.kept
    have c3 := hr.c3
    have HLL := hid hL
    have HMM := hid hM
    have hll : L.length ≤ k := by rw [hL]; exact Nat.le_trans (List.length_filter_le _ _) (by simp; omega)
    have hml : M.length ≤ k := by rw [hM, sortS_len, List.length_map]; exact Nat.le_trans (List.length_filter_le _ _) (by simp; omega)
    have HO1 := hid ho1
    have HO2 := hid ho2
    have HDIS := hid hdis
    clear hL hM ho1 ho2 hdis
    by_cases hlt : k < Y.length
    · obtain ⟨g, cur, rfl, hg, hcs, hnc, hc⟩ := hr.get hlt
      have hb1 : (0 : Int) ≤ k := by omega
      have hb2 : (k : Int) < Y.length := by omega
      have HT := hid (List.take_succ_eq_append_getElem hlt)
      have HV := hid (show f Y[k] = !(expB Y[k].x (lim now)) by rw [HF.out])
      have HV2 := hid (show g' Y[k] = (expB Y[k].x (lim now) && !Y[k].x.ended) by rw [HG.out])
      have HID := hid (id_new H.out.good.uniq hlt g')
      have HLT := hid hlt
      clear hg hr
      generalize Y[k] = y at *
      obtain ⟨d0, d1, d2, d3, d4, d5, d6, d7, d8, d9⟩ := hc
      have HEB := hid (show expB y.x (lim now) = decide (y.x.until_ ≤ lim now) from rfl)
      by_cases hu : y.x.until_ ≤ lim now
      · have hE : expB y.x (lim now) = true := by rw [HEB.out]; simpa using hu
        have HL2 := hid (show L = (Y.take (k + 1)).filter f by rw [HT.out, List.filter_append, List.filter_cons_of_neg (by rw [HV.out, hE]; simp), HLL.out]; simp)
        cases hen : y.x.ended
        · have HM2 := hid (show insS M y.id = sortS (((Y.take (k + 1)).filter g').map (·.id)) by rw [HT.out, List.filter_append, List.map_append, List.filter_cons_of_pos (by rw [HV2.out, hE, hen]; rfl), HMM.out]; exact ins_sort HID.out)
          have HINS := hid (insert_any (cap := c2) (HO2.out.seq encSOk) (by omega) ⟨y.id.toArray⟩)
          change Hid (Calls Try.prog 50 _ wr fun e w' => ∃ a' c', e = .returned (.slice a' (insS M y.id).length c') ∧ OwnL 9 1 encS wr w' a' c' (insS M y.id)) at HINS
          generalize insS M y.id = M2 at *
          rw [hen] at d9
          clear hE hen
          go_wp2_with (go_at_call 50; refine HINS.out.mono ?_; rintro e w3 ⟨a3, c3x, rfl, o3⟩)
          go_roundw
          case rel => exact ⟨k + 1, L, a1, c1, M2, a3, c3x, by have := HLT.out; omega, by go_num, rfl, rfl, HL2.out, HM2.out, HO1.out.later o3.kept, o3.rebase HO2.out.kept, fun i hi hj => by have := o3.new i hi; have := HO1.out.lt i hj; omega⟩
          case measure => simp [intOf]; omega
        · have HM2 := hid (show M = sortS (((Y.take (k + 1)).filter g').map (·.id)) by rw [HT.out, List.filter_append, List.map_append, List.filter_cons_of_neg (by rw [HV2.out, hE, hen]; simp), HMM.out]; simp)
          rw [hen] at d9
          clear hE hen
          go_wp2_with fail
          go_roundw
          case rel => exact ⟨k + 1, L, a1, c1, M, a2, c2, by have := HLT.out; omega, by go_num, rfl, rfl, HL2.out, HM2.out, HO1.out, HO2.out, HDIS.out⟩
          case measure => simp [intOf]; omega
      · have hE : expB y.x (lim now) = false := by rw [HEB.out]; simpa using hu
        have HL2 := hid (show L ++ [y] = (Y.take (k + 1)).filter f by rw [HT.out, List.filter_append, List.filter_cons_of_pos (by rw [HV.out, hE]; rfl), HLL.out]; rfl)
        have HM2 := hid (show M = sortS (((Y.take (k + 1)).filter g').map (·.id)) by rw [HT.out, List.filter_append, List.map_append, List.filter_cons_of_neg (by rw [HV2.out, hE]; simp), HMM.out]; simp)
        obtain ⟨L2, HL3⟩ : ∃ L2, Hid (L2 = L ++ [y]) := ⟨_, hid rfl⟩
        clear hE
        go_wp2_with (at_builtin; refine wp_appL encKOk Try.underlying80 HL3.out (HO1.out.later ((Kept.refl [] wr).alloc _)) (list_box encKOk (heap_alloc_new wr _) (by simp [rowV, encK, sV]) (by simp [maxLen])) (show L.length + 1 ≤ 1000000 by omega) rfl _ _ rfl rfl rfl rfl rfl ?_; intro a3 c3x w3 o3 k3 f3)
        go_roundw
        case rel => exact ⟨k + 1, L2, a3, c3x, M, a2, c2, by have := HLT.out; omega, by go_num, rfl, rfl, by rw [HL3.out]; exact HL2.out, HM2.out, o3, (HO2.out.later ((Kept.refl [] wr).alloc _)).beside k3 HO1.out.new (fun i hi hj => HDIS.out i hj hi), fun i hi hj => (f3 i hj).elim (fun e => HDIS.out i hi e) (fun e => by have := HO2.out.lt i hi; simp at e; omega)⟩
        case measure => simp [intOf]; omega
    · have HE := hid (show M = sortS ((Y.filter g').map (·.id)) by rw [HMM.out, List.take_of_length_le (by omega)])
      have HE2 := hid (show L = Y.filter f by rw [HLL.out, List.take_of_length_le (by omega)])
      have f3 := free_at hr.blk 3
      have hqb : qb < w.heap.size := lt_of_heap H.out.blk
      have HST := hid (show StrsAt (wr.setCell ⟨qb, 3, none⟩ (.slice a1 L.length c1)) a2 M from SeqAt.kept (HO2.out.seq encSOk) CEnc.lasts ((Kept.refl [qb] wr).setCell (.inl (by simp)) _) (fun _ z hz hm => by simp at hm; have := HO2.out.new z.block (by rw [hz]; simp [fp]); omega))
      clear hr
      go_wp2_with fail
      go_ret
      rw [← HE.out, ← HE2.out]
      exact ⟨⟨a2, c2, rfl, HST.out⟩, H.out.turn HO1.out.kept HO1.out.row HO1.out.new (by rw [HE2.out]; exact List.filter_sublist) (by rw [HE2.out]; exact HGD.out)⟩
end Go.Proofs.Ytakccoiecmibcaa
