/- Approve of the program. -/
import Derived.Test.YtionejokdfgmhaaWf2
namespace Go.Proofs.Ytionejokdfgmhaa
open Go.RowKit Go.Maps

def needX (x : Proc) : Int := ((x.steps[x.step]?).map (·.2)).getD 0
def apprX (b : Str) (x : Proc) : Proc := if (x.count : Int) + 1 = needX x then { x with appr := x.appr ++ [b], count := 0, step := x.step + 1 } else { x with appr := x.appr ++ [b], count := x.count + 1 }
def apprC (U : Wfs) (k b : Str) (g : List Str) (now : Int) : Int := if pendC U k now = 0 then (match alook U k with
  | some x => if denB x b || !hasS g (grpS x) then 11 else if hasS x.appr b then 7 else 0
  | none => 6) else pendC U k now
def apprU (U : Wfs) (k b : Str) (g : List Str) (now : Int) : Wfs := if apprC U k b g now = 0 then updU U k (apprX b) else U
theorem pend_step {x : Proc} {t : Int} (h : stS x t = sPending) (hi : Inv x) : x.step < x.steps.length := by
  unfold stS at h
  split at h
  · exact absurd h (by decide)
  · have := hi.step; omega
theorem needX_at {x : Proc} (h : x.step < x.steps.length) : needX x = x.steps[x.step].2 := by unfold needX; rw [List.getElem?_eq_getElem h]; rfl
theorem Inv.appr_ {x : Proc} (hi : Inv x) (h : x.step < x.steps.length) (b : Str) : Inv (apprX b x) := by
  have hc := hi.count h
  have hn := hi.need _ (List.getElem_mem h)
  have e := needX_at h
  have ha := hi.appr
  unfold doneN at ha
  unfold apprX
  split
  · rename_i he
    rw [e] at he
    refine ⟨hi.len1, hi.len8, hi.need, h, fun h2 => ?_, fun _ => rfl, ?_⟩
    · have h4 : 1 ≤ (x.steps[x.step + 1]'h2).2 := (hi.need _ (List.getElem_mem h2)).2.1
      show ((0 : Nat) : Int) < (x.steps[x.step + 1]'h2).2
      omega
    · unfold doneN
      simp only [List.length_append, List.length_singleton]
      rw [List.take_succ_eq_append_getElem h, List.map_append, List.sum_append, ha]
      simp
      omega
  · rename_i he
    rw [e] at he
    refine ⟨hi.len1, hi.len8, hi.need, hi.step, fun _ => ?_, fun h2 => ?_, ?_⟩
    · show ((x.count + 1 : Nat) : Int) < x.steps[x.step].2
      omega
    · have : x.step = x.steps.length := h2
      omega
    · unfold doneN
      simp only [List.length_append, List.length_singleton]
      rw [ha]
      omega

theorem ownl_of_row {α : Type} {E : TypeId} {sz : Nat} {enc : α → List Value} {w : World} {a : Option Addr} {cap : Nat} {l : List α} (h : w.ownsRow 0 E sz (.slice a l.length cap) l.length (rowV enc l)) : OwnL E sz enc { w with heap := #[] } w a cap l :=
  ⟨h, ⟨rfl, rfl, rfl, by simp, fun k hk => by simp at hk⟩, fun i _ => by simp⟩
theorem fp_types {w : World} {a b : Option Addr} {e e' : TypeId} (hne : e ≠ e') (ha : ∀ i ∈ fp a, ∃ cur, w.heap[i]? = some (.cells cur e (0, 0))) (hb : ∀ i ∈ fp b, ∃ cur, w.heap[i]? = some (.cells cur e' (0, 0))) : ∀ i ∈ fp a, i ∉ fp b := by
  intro i hi hj
  obtain ⟨c1, h1⟩ := ha i hi
  obtain ⟨c2, h2⟩ := hb i hj
  rw [h1] at h2
  injection h2 with h2
  injection h2 with _ h2 _
  exact hne h2
theorem ProcAt.p_aa {w : World} {q : PP} (h : ProcAt w q) : q.p ∉ fp q.aa := by
  intro hi
  obtain ⟨cur, hc⟩ := row_blk h.appr _ hi
  rw [h.blk] at hc
  injection hc with hc
  injection hc with _ hc _
  exact absurd hc (by decide)
/-- The list of the approvers has grown, and its new header is stored. -/
theorem ProcAt.appd {w w2 : World} {q : PP} (h : ProcAt w q) (b : Str) (k : Kept (fp q.aa) w w2) {a' : Option Addr} {cap' : Nat} (ho : w2.ownsRow 0 9 1 (.slice a' (q.x.appr ++ [b]).length cap') (q.x.appr ++ [b]).length (rowV encS (q.x.appr ++ [b]))) (hf : ∀ i ∈ fp a', i ∈ fp q.aa ∨ w.heap.size ≤ i) :
    ProcAt (w2.setCell ⟨q.p, 7, none⟩ (.slice a' (q.x.appr ++ [b]).length cap')) { q with aa := a', ac := cap', x := { q.x with appr := q.x.appr ++ [b] } } := by
  have hpl := lt_of_heap h.blk
  have hb2 := k.at h.blk h.p_aa
  have hb := heap_setCell_same w2 q.p 7 _ _ (.slice a' (q.x.appr ++ [b]).length cap') hb2
  have k2 : Kept [q.p] w2 (w2.setCell ⟨q.p, 7, none⟩ (.slice a' (q.x.appr ++ [b]).length cap')) := (Kept.refl [q.p] w2).setCell (.inl (by simp)) _
  refine ⟨hb, ?_, ?_⟩
  · refine row_kept (row_kept h.steps k (fp_types (by decide) (row_blk h.steps) (row_blk h.appr))) k2 (fun i hi hm => ?_)
    simp at hm
    subst hm
    obtain ⟨cur, hc⟩ := row_blk h.steps _ hi
    rw [h.blk] at hc
    injection hc with hc
    injection hc with _ hc _
    exact absurd hc (by decide)
  · refine row_kept ho k2 (fun i hi hm => ?_)
    simp at hm
    subst hm
    rcases hf _ hi with e | e
    · exact h.p_aa e
    · omega
theorem box_str (w : World) (x : ByteArray) (t : TypeId) : StrsAt (w.alloc (.cells #[.string x] t (0, 0))) (some ⟨w.heap.size, 0, none⟩) [x.data.toList] :=
  list_box encSOk (heap_alloc_new w _) (by simp [rowV, encS, sV]) (by simp [maxLen])

set_option maxHeartbeats 8000000 in
set_option maxRecDepth 100000 in
theorem approve_any {w : World} {wb mb : Nat} {X : PXs} (h : WfAt w wb mb X) (s by_ : ByteArray) (hs : s.size ≤ maxLen) {a : Option Addr} {cap : Nat} {g : List Str} (hg : StrsAt w a g) (now : Int) :
    Calls Try.prog 26 #[.pointer (some ⟨wb, 0, none⟩), .string s, .string by_, .slice a g.length cap, .int .i64 now] w fun e w' => e = .returned (.int .i64 (apprC (absW X) s.data.toList by_.data.toList g now)) ∧ Left w w' wb mb X (apprU (absW X) s.data.toList by_.data.toList g now) := by
  have HP := hid (pending_any h s hs now)
  by_cases hz : pendC (absW X) s.data.toList now = 0
  · obtain ⟨q, hq, hst⟩ := pend_some hz
    have hv : pendV X s.data.toList now = .pointer (some ⟨q.p, 0, none⟩) := by unfold pendV; rw [if_pos hz, hq]; rfl
    have E := hid (show apprC (absW X) s.data.toList by_.data.toList g now = if denB q.x by_.data.toList || !hasS g (grpS q.x) then 11 else if hasS q.x.appr by_.data.toList then 7 else 0 by unfold apprC; rw [if_pos hz, absW_look, hq]; rfl)
    have E2 := hid (show apprU (absW X) s.data.toList by_.data.toList g now = if apprC (absW X) s.data.toList by_.data.toList g now = 0 then updU (absW X) s.data.toList (apprX by_.data.toList) else absW X from rfl)
    rw [hz, hv] at HP
    have hp := h.map.of_look hq
    have HG := hid (fun w1 (hd : DrewN w w1) n => Calls.quiet_of_same (n := n) (w := w1) ((group_any ((hp.atD hd).drew n)).mono fun _ _ h => ⟨h.1, h.2.symm⟩))
    have HC := hid (fun w1 (hd : DrewN w w1) n => Calls.quiet_of_same (n := n) (w := w1) ((contains_any (cap := cap) (hg.keptN (hd.kept.drewN n)) ⟨(grpS q.x).toArray⟩).mono fun _ _ h => ⟨h.1, h.2.symm⟩))
    have HD := hid (fun w1 (hd : DrewN w w1) n => Calls.quiet_of_same (n := n) (w := w1) ((denies_any ((hp.atD hd).drew n) by_).mono fun _ _ h => ⟨h.1, h.2.symm⟩))
    have HF := hid (fun w1 (hd : DrewN w w1) => And.intro ((hp.atD hd).cell 5) ((hp.atD hd).cell 7))
    have hc2 : hasS g (⟨(grpS q.x).toArray⟩ : ByteArray).data.toList = hasS g (grpS q.x) := rfl
    have HI := hid (show Inv q.x from h.inv _ (alook_some hq))
    have HH := hid h
    unfold sV at HG
    cases hde : denB q.x by_.data.toList
    · rw [hde] at HD
      cases hb : hasS g (grpS q.x)
      · rw [hc2, hb] at HC
        have E3 := hid (show apprC (absW X) s.data.toList by_.data.toList g now = 11 by rw [E.out, hde, hb]; rfl)
        have E4 := hid (show apprU (absW X) s.data.toList by_.data.toList g now = absW X by rw [E2.out, E3.out]; rfl)
        rw [E4.out, E3.out]
        clear h hq hst hv hp E E2 hz hb hc2 hde
        go_enter Try.func26, Try.ntmps26
        go_wp2_with fail
        refine HP.out.mono ?_
        rintro e w1 ⟨rfl, hd⟩
        obtain ⟨c5, c7⟩ := HF.out w1 hd
        simp [procV] at c5 c7
        have HG1 := hid (HG.out w1 hd)
        have HC1 := hid (HC.out w1 hd)
        have HD1 := hid (HD.out w1 hd)
        go_wp2_with fail
        go_quiet ((first
          | (go_at_call 47; with_reducible exact HD1.out _)
          | (go_at_call 43; with_reducible exact HG1.out _)
          | (go_at_call 48; with_reducible exact HC1.out _)))
        go_wp2_with fail
        go_ret
        exact ⟨rfl, Left.same HH.out (hd.kept.drewN _)⟩
      · rw [hc2, hb] at HC
        have HC3 := hid (fun w1 (hd : Kept [] w w1) => contains_any (cap := q.ac) (hp.apps.keptN hd) by_)
        cases hap : hasS q.x.appr by_.data.toList
        · rw [hap] at HC3
          have E3 := hid (show apprC (absW X) s.data.toList by_.data.toList g now = 0 by rw [E.out, hde, hb, hap]; rfl)
          have E4 := hid (show apprU (absW X) s.data.toList by_.data.toList g now = updU (absW X) s.data.toList (apprX by_.data.toList) by rw [E2.out, E3.out]; rfl)
          rw [E4.out, E3.out]
          have hlt := pend_step hst HI.out
          have hfew := HI.out.few
          have HX := hid hp
          have HQ := hid hq
          obtain ⟨M, HM⟩ : ∃ M, Hid (M = q.x.appr ++ [by_.data.toList]) := ⟨_, hid rfl⟩
          have hcnt8 : q.x.count ≤ 8 := by have := HI.out.count hlt; have := (HI.out.need _ (List.getElem_mem hlt)).2.2; omega
          have hst8 : q.x.step ≤ 8 := by have := HI.out.len8; omega
          clear h hq hst hv hp E E2 hz hb hc2 hde hap
          go_enter Try.func26, Try.ntmps26
          go_wp2_with fail
          refine HP.out.mono ?_
          rintro e w1 ⟨rfl, hd⟩
          obtain ⟨c5, c7⟩ := HF.out w1 hd
          simp [procV] at c5 c7
          have HG1 := hid (HG.out w1 hd)
          have HC1 := hid (HC.out w1 hd)
          have HD1 := hid (HD.out w1 hd)
          go_wp2_with fail
          go_quiet ((first
            | (go_at_call 47; with_reducible exact HD1.out _)
            | (go_at_call 43; with_reducible exact HG1.out _)
            | (go_at_call 48; with_reducible exact HC1.out _)))
          go_wp2_with fail
          refine (HC3.out _ (hd.kept.drewN _)).mono ?_
          rintro e w2 ⟨rfl, rfl⟩
          have HP3 := hid (fun n o => procLaw.kept [] w ((w1.drewN n).alloc o) q HX.out ((hd.kept.drewN n).alloc o) (by simp))
          go_wp2_with (at_builtin; refine wp_appL encSOk Try.underlying30 HM.out (ownl_of_row (HP3.out _ _).appr) (box_str _ by_ _) (show q.x.appr.length + [by_.data.toList].length ≤ 1000000 by simp; omega) rfl _ _ rfl rfl rfl rfl rfl ?_; intro a' cap' w3 ho3 hk3 hf3; have hb3 := hk3.at (HP3.out _ _).blk (HP3.out 0 (.cells #[] 0 (0, 0))).p_aa; have d6 := cell_at hb3 6; have d7 := cell_at hb3 7; have f6 := free_at hb3 6; have f7 := free_at hb3 7; simp [procV] at d6 d7)
          have HA := hid ((HP3.out _ _).appd by_.data.toList hk3 (by rw [← HM.out]; exact ho3.row) hf3)
          rw [← HM.out] at HA
          have HB := hid (HA.out.set { q with aa := a', ac := cap', x := { q.x with appr := M, count := q.x.count + 1 } } 6 (.int .i64 ((q.x.count : Int) + 1)) rfl rfl rfl rfl rfl rfl rfl rfl)
          have HK := hid ((((hd.kept.drewN nq).alloc (.cells #[.string by_] 9 (0, 0))).mono (T := q.p :: fp q.aa) (by simp)).step hk3 (fun i hi => List.mem_cons_of_mem _ hi) |>.setCell (p := ⟨q.p, 7, none⟩) (.inl (by simp)) (.slice a' M.length cap') |>.setCell (p := ⟨q.p, 6, none⟩) (.inl (by simp)) (.int .i64 ((q.x.count : Int) + 1)))
          have hsz : w.heap.size ≤ ((w1.drewN nq).alloc (.cells #[.string by_] 9 (0, 0))).heap.size := ((hd.kept.drewN nq).alloc _).size
          have HFP := hid (show ∀ i ∈ fp a', i ∈ fp q.aa ∨ w.heap.size ≤ i from fun i hi => (hf3 i hi).imp id (fun e => Nat.le_trans hsz e))
          obtain ⟨w4, HW4⟩ : ∃ w4, Hid (w4 = (w3.setCell ⟨q.p, 7, none⟩ (.slice a' M.length cap')).setCell ⟨q.p, 6, none⟩ (.int .i64 ((q.x.count : Int) + 1))) := ⟨_, hid rfl⟩
          rw [← HW4.out] at HB HK ⊢
          have g3 := HB.out.cell 3
          have g5 := HB.out.cell 5
          have g6 := HB.out.cell 6
          have u5 := free_at HB.out.blk 5
          have u6 := free_at HB.out.blk 6
          obtain ⟨b, off, e, hb4, hc0, hc1⟩ := StpsAt.get HB.out.stps hlt
          have e' : q.sa = some ⟨b, off, none⟩ := e
          change w4.cell? _ = some (.int .i64 q.x.steps[q.x.step].2) at hc1
          simp [procV, e'] at g3 g5 g6
          have hst1 : (0 : Int) ≤ q.x.step := by omega
          have hst2 : (q.x.step : Int) < q.x.steps.length := by omega
          have HN := hid (needX_at hlt)
          obtain ⟨nd, HND⟩ : ∃ nd, Hid (nd = q.x.steps[q.x.step].2) := ⟨_, hid rfl⟩
          rw [← HND.out] at hc1 HN
          have HLT := hid hlt
          clear HA hk3 hf3 hb3 f6 f7 d6 d7 hc0 e e' hsz HP3 HG1 HC1 HD1 c5 c7
          by_cases hN : (q.x.count : Int) + 1 = nd
          · have hbn : (((q.x.count : Int) + 1) == nd) = true := by rw [beq_iff_eq]; exact hN
            have HX4 := hid (show apprX by_.data.toList q.x = { q.x with appr := M, count := 0, step := q.x.step + 1 } by unfold apprX; rw [if_pos (by rw [HN.out]; exact hN), ← HM.out])
            clear hN
            go_quiet (fail)
            go_wp2_with fail
            go_ret
            refine ⟨rfl, ?_⟩
            refine HH.out.upd (S := q.p :: fp q.aa) (q' := { q with aa := a', ac := cap', x := { q.x with appr := M, count := 0, step := q.x.step + 1 } }) HQ.out (((HK.out.drewN _).setCell (.inl (by simp)) _).setCell (.inl (by simp)) _) (fun i hi => .inl ?_) ?_ rfl (fun i hi => ?_) ?_ HX4.out.symm
            · rcases List.mem_cons.1 hi with e | e
              · simp [pdm, e]
              · simp [pdm, e]
            · exact ((HB.out.drew _).set { q with aa := a', ac := cap', x := { q.x with appr := M, count := q.x.count + 1, step := q.x.step + 1 } } 5 (.int .i64 ((q.x.step : Int) + 1)) rfl rfl rfl rfl rfl rfl rfl rfl).set { q with aa := a', ac := cap', x := { q.x with appr := M, count := 0, step := q.x.step + 1 } } 6 (.int .i64 0) rfl rfl rfl rfl rfl rfl rfl rfl
            · simp only [pdm, List.mem_cons, List.mem_append] at hi ⊢
              rcases hi with e | e | e
              · exact .inl (.inl e)
              · exact .inl (.inr (.inl e))
              · exact (HFP.out i e).imp (fun x => .inr (.inr x)) id
            · have := HI.out.appr_ HLT.out by_.data.toList
              rw [HX4.out] at this
              exact this
          · have hbn : (((q.x.count : Int) + 1) == nd) = false := by rw [beq_eq_false_iff_ne]; exact hN
            have HX4 := hid (show apprX by_.data.toList q.x = { q.x with appr := M, count := q.x.count + 1 } by unfold apprX; rw [if_neg (by rw [HN.out]; exact hN), ← HM.out])
            clear hN
            go_quiet (fail)
            go_wp2_with fail
            go_ret
            refine ⟨rfl, ?_⟩
            refine HH.out.upd (S := q.p :: fp q.aa) (q' := { q with aa := a', ac := cap', x := { q.x with appr := M, count := q.x.count + 1 } }) HQ.out (HK.out.drewN _) (fun i hi => .inl ?_) (HB.out.drew _) rfl (fun i hi => ?_) ?_ HX4.out.symm
            · rcases List.mem_cons.1 hi with e | e
              · simp [pdm, e]
              · simp [pdm, e]
            · simp only [pdm, List.mem_cons, List.mem_append] at hi ⊢
              rcases hi with e | e | e
              · exact .inl (.inl e)
              · exact .inl (.inr (.inl e))
              · exact (HFP.out i e).imp (fun x => .inr (.inr x)) id
            · have := HI.out.appr_ HLT.out by_.data.toList
              rw [HX4.out] at this
              exact this
        · rw [hap] at HC3
          have E3 := hid (show apprC (absW X) s.data.toList by_.data.toList g now = 7 by rw [E.out, hde, hb, hap]; rfl)
          have E4 := hid (show apprU (absW X) s.data.toList by_.data.toList g now = absW X by rw [E2.out, E3.out]; rfl)
          rw [E4.out, E3.out]
          clear h hq hst hv hp E E2 hz hb hc2 hde hap
          go_enter Try.func26, Try.ntmps26
          go_wp2_with fail
          refine HP.out.mono ?_
          rintro e w1 ⟨rfl, hd⟩
          obtain ⟨c5, c7⟩ := HF.out w1 hd
          simp [procV] at c5 c7
          have HG1 := hid (HG.out w1 hd)
          have HC1 := hid (HC.out w1 hd)
          have HD1 := hid (HD.out w1 hd)
          go_wp2_with fail
          go_quiet ((first
            | (go_at_call 47; with_reducible exact HD1.out _)
            | (go_at_call 43; with_reducible exact HG1.out _)
            | (go_at_call 48; with_reducible exact HC1.out _)))
          go_wp2_with fail
          refine (HC3.out _ (hd.kept.drewN _)).mono ?_
          rintro e w2 ⟨rfl, rfl⟩
          go_wp2_with fail
          go_ret
          exact ⟨rfl, Left.same HH.out (hd.kept.drewN _)⟩
    · rw [hde] at HD
      have E3 := hid (show apprC (absW X) s.data.toList by_.data.toList g now = 11 by rw [E.out, hde]; rfl)
      have E4 := hid (show apprU (absW X) s.data.toList by_.data.toList g now = absW X by rw [E2.out, E3.out]; rfl)
      rw [E4.out, E3.out]
      clear h hq hst hv hp E E2 hz hc2 hde
      go_enter Try.func26, Try.ntmps26
      go_wp2_with fail
      refine HP.out.mono ?_
      rintro e w1 ⟨rfl, hd⟩
      have HD1 := hid (HD.out w1 hd)
      go_wp2_with fail
      go_quiet ((go_at_call 47; with_reducible exact HD1.out _))
      go_wp2_with fail
      go_ret
      exact ⟨rfl, Left.same HH.out (hd.kept.drewN _)⟩
  · have hv : pendV X s.data.toList now = .pointer none := by unfold pendV; rw [if_neg hz]
    have E := hid (show apprC (absW X) s.data.toList by_.data.toList g now = pendC (absW X) s.data.toList now by unfold apprC; rw [if_neg hz])
    have E2 := hid (show apprU (absW X) s.data.toList by_.data.toList g now = absW X by unfold apprU; rw [E.out, if_neg hz])
    have HH := hid h
    rw [E2.out, E.out]
    rw [hv] at HP
    have hne : (pendC (absW X) s.data.toList now != 0) = true := by simpa using hz
    generalize pendC (absW X) s.data.toList now = c at *
    clear h hv E E2 hz
    go_enter Try.func26, Try.ntmps26
    go_wp2_with fail
    refine HP.out.mono ?_
    rintro e w1 ⟨rfl, hd⟩
    go_wp2_with fail
    go_ret
    exact ⟨rfl, Left.same HH.out hd.kept⟩
end Go.Proofs.Ytionejokdfgmhaa
