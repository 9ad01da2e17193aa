/- Reject, Take, Approve of the program. -/
import Derived.Test.YtionejokdfgmhaaWf
import Derived.Laws.Rows
namespace Go.Proofs.Ytionejokdfgmhaa
open Go.RowKit Go.Maps

def updU (U : Wfs) (k : Str) (f : Proc → Proc) : Wfs := match alook U k with
  | some x => aput U k (f x)
  | none => U
theorem updU_at {X : PXs} {k : Str} {q : PP} (h : alook X k = some q) (f : Proc → Proc) : updU (absW X) k f = aput (absW X) k (f q.x) := by
  unfold updU; rw [absW_look, h]; rfl
theorem inv_put {X : PXs} (h : ∀ p ∈ X, Inv p.2.x) {k : Str} {q : PP} (hq : Inv q.x) : ∀ p ∈ aput X k q, Inv p.2.x := by
  intro p hp
  rcases aput_mem hp with e | ⟨hp, _⟩
  · rw [e]; exact hq
  · exact h p hp
theorem pdom_put {X : PXs} {k : Str} {q : PP} {i mb : Nat} (hi : i ∈ pdom pdm mb (aput X k q)) : i ∈ pdom pdm mb X ∨ i ∈ pdm q := by
  rcases pdom_mem.1 hi with e | ⟨p, hp, hd⟩
  · exact .inl (pdom_mem.2 (.inl e))
  · rcases aput_mem hp with e | ⟨hp, _⟩
    · rw [e] at hd; exact .inr hd
    · exact .inl (pdom_mem.2 (.inr ⟨p, hp, hd⟩))
/-- A process has been written. -/
theorem WfAt.upd {S : List Nat} {w w' : World} {wb mb : Nat} {X : PXs} (h : WfAt w wb mb X) {k : Str} {q q' : PP} (hq : alook X k = some q) (kp : Kept S w w') (hS : ∀ i ∈ S, i ∈ pdm q ∨ w.heap.size ≤ i) (hc : ProcAt w' q') (hp : q'.p = q.p) (hd : ∀ i ∈ pdm q', i ∈ pdm q ∨ w.heap.size ≤ i) (hi : Inv q'.x) {f : Proc → Proc} (hf : q'.x = f q.x) :
    Left w w' wb mb X (updU (absW X) k f) := by
  have hm := alook_some hq
  have hin : ∀ i ∈ pdm q, i ∈ pdom pdm mb X := fun i hi => pdom_mem.2 (.inr ⟨_, hm, hi⟩)
  refine ⟨aput X k q', ⟨kp.at h.blk (fun hs => ?_), h.map.upd procLaw hq kp hS hc hp hd, fun hi => ?_, ?_, inv_put h.inv hi⟩, ?_, kp.mono (fun i hi => ?_), fun i hi => ?_⟩
  · rcases hS wb hs with e | e
    · exact h.out (hin _ e)
    · have := lt_of_heap h.blk; omega
  · rcases pdom_put hi with e | e
    · exact h.out e
    · rcases hd wb e with e2 | e2
      · exact h.out (hin _ e2)
      · have := lt_of_heap h.blk; omega
  · rw [aput_len, hq]; exact h.len
  · rw [absW_put, updU_at hq, hf]
  · rcases hS i hi with e | e
    · exact .inl (by unfold wdom; exact List.mem_cons_of_mem _ (hin i e))
    · exact .inr e
  · unfold wdom at hi ⊢
    rcases List.mem_cons.1 hi with e | hi
    · exact .inl (by rw [e]; exact List.mem_cons_self ..)
    · rcases pdom_put hi with e | e
      · exact .inl (List.mem_cons_of_mem _ e)
      · rcases hd i e with e2 | e2
        · exact .inl (List.mem_cons_of_mem _ (hin i e2))
        · exact .inr e2
theorem ProcAt.set {w : World} {q : PP} (h : ProcAt w q) (q' : PP) (i : Nat) (v : Value) (he : procV q' = (procV q).set! i v) (hp : q'.p = q.p) (hs : q'.sa = q.sa) (hsc : q'.sc = q.sc) (ha : q'.aa = q.aa) (hac : q'.ac = q.ac) (hst : q'.x.steps = q.x.steps) (hap : q'.x.appr = q.x.appr) : ProcAt (w.setCell ⟨q.p, i, none⟩ v) q' := by
  have hb := heap_setCell_same w q.p i _ _ v h.blk
  have k : Kept [q.p] w (w.setCell ⟨q.p, i, none⟩ v) := (Kept.refl [q.p] w).setCell (.inl (by simp)) v
  have hne : ∀ (e : TypeId) (a : Option Addr), e ≠ 72 → (∀ i ∈ fp a, ∃ cur, w.heap[i]? = some (.cells cur e (0, 0))) → ∀ i ∈ fp a, i ∉ [q.p] := fun e a hne hb i hi hm => by
    simp at hm
    subst hm
    obtain ⟨cur, hc⟩ := hb _ hi
    rw [h.blk] at hc
    injection hc with hc
    injection hc with _ hc _
    exact hne hc.symm
  refine ⟨?_, ?_, ?_⟩
  · rw [hp, he]; exact hb
  · rw [hs, hsc, hst]; exact row_kept h.steps k (hne _ _ (by decide) (row_blk h.steps))
  · rw [ha, hac, hap]; exact row_kept h.appr k (hne _ _ (by decide) (row_blk h.appr))

theorem ProcAt.atD {w w1 : World} {q : PP} (h : ProcAt w q) (hd : DrewN w w1) : ProcAt w1 q := by obtain ⟨n, rfl⟩ := hd; exact h.drew n

/-! ### Reject -/
def rejC (U : Wfs) (k : Str) (g : List Str) (now : Int) : Int := if pendC U k now = 0 then (match alook U k with
  | some x => if hasS g (grpS x) then 0 else 11
  | none => 6) else pendC U k now
def rejX (x : Proc) : Proc := { x with rej := true }
def rejU (U : Wfs) (k : Str) (g : List Str) (now : Int) : Wfs := if rejC U k g now = 0 then updU U k rejX else U
theorem pend_some {X : PXs} {k : Str} {now : Int} (h : pendC (absW X) k now = 0) : ∃ q, alook X k = some q ∧ stS q.x (lim now) = sPending := by
  unfold pendC at h
  rw [absW_look] at h
  cases hq : alook X k with
  | none => rw [hq] at h; cases h
  | some q =>
    rw [hq] at h
    refine ⟨q, rfl, ?_⟩
    simp only [Option.map_some] at h
    split at h
    · cases h
    · split at h
      · rename_i e; exact e
      · cases h
set_option maxHeartbeats 2000000 in
set_option maxRecDepth 100000 in
theorem reject_any {w : World} {wb mb : Nat} {X : PXs} (h : WfAt w wb mb X) (s by_ : ByteArray) (hs : s.size ≤ maxLen) {a : Option Addr} {cap : Nat} {g : List Str} (hg : StrsAt w a g) (now : Int) :
    Calls Try.prog 27 #[.pointer (some ⟨wb, 0, none⟩), .string s, .string by_, .slice a g.length cap, .int .i64 now] w fun e w' => e = .returned (.int .i64 (rejC (absW X) s.data.toList g now)) ∧ Left w w' wb mb X (rejU (absW X) s.data.toList g now) := by
  have HP := hid (pending_any h s hs now)
  by_cases hz : pendC (absW X) s.data.toList now = 0
  · obtain ⟨q, hq, hst⟩ := pend_some hz
    have hv : pendV X s.data.toList now = .pointer (some ⟨q.p, 0, none⟩) := by unfold pendV; rw [if_pos hz, hq]; rfl
    have E := hid (show rejC (absW X) s.data.toList g now = if hasS g (grpS q.x) then 0 else 11 by unfold rejC; rw [if_pos hz, absW_look, hq]; rfl)
    have E2 := hid (show rejU (absW X) s.data.toList g now = if rejC (absW X) s.data.toList g now = 0 then updU (absW X) s.data.toList rejX else absW X from rfl)
    rw [hz, hv] at HP
    have hp := h.map.of_look hq
    have HG := hid (fun w1 (hd : DrewN w w1) n => Calls.quiet_of_same (n := n) (w := w1) ((group_any ((hp.atD hd).drew n)).mono fun _ _ h => ⟨h.1, h.2.symm⟩))
    have HC := hid (fun w1 (hd : DrewN w w1) n => Calls.quiet_of_same (n := n) (w := w1) ((contains_any (cap := cap) (hg.keptN (hd.kept.drewN n)) ⟨(grpS q.x).toArray⟩).mono fun _ _ h => ⟨h.1, h.2.symm⟩))
    have HF := hid (fun w1 (hd : DrewN w w1) => And.intro ((hp.atD hd).cell 5) (And.intro ((hp.atD hd).cell 8) (free_at (hp.atD hd).blk 8)))
    have hc2 : hasS g (⟨(grpS q.x).toArray⟩ : ByteArray).data.toList = hasS g (grpS q.x) := rfl
    have HI := hid (show Inv q.x from h.inv _ (alook_some hq))
    have HH := hid h
    unfold sV at HG
    cases hb : hasS g (grpS q.x)
    · rw [hc2, hb] at HC
      have E3 := hid (show rejC (absW X) s.data.toList g now = 11 by rw [E.out, hb]; rfl)
      have E4 := hid (show rejU (absW X) s.data.toList g now = absW X by rw [E2.out, E3.out]; rfl)
      rw [E4.out, E3.out]
      clear h hq hst hv hp E E2 hz hb hc2
      go_enter Try.func27, Try.ntmps27
      go_wp2_with fail
      refine HP.out.mono ?_
      rintro e w1 ⟨rfl, hd⟩
      obtain ⟨c5, c8, f8⟩ := HF.out w1 hd
      simp [procV] at c5 c8
      have HG1 := hid (HG.out w1 hd)
      have HC1 := hid (HC.out w1 hd)
      go_wp2_with fail
      go_quiet ((first
        | (go_at_call 43; with_reducible exact HG1.out _)
        | (go_at_call 48; with_reducible exact HC1.out _)))
      go_wp2_with fail
      go_ret
      exact ⟨rfl, Left.same HH.out (hd.kept.drewN _)⟩
    · rw [hc2, hb] at HC
      have E3 := hid (show rejC (absW X) s.data.toList g now = 0 by rw [E.out, hb]; rfl)
      have E4 := hid (show rejU (absW X) s.data.toList g now = updU (absW X) s.data.toList rejX by rw [E2.out, E3.out]; rfl)
      rw [E4.out, E3.out]
      have HL := hid (fun w1 (hd : DrewN w w1) n => HH.out.upd (q' := { q with x := rejX q.x }) (f := rejX) hq (((hd.kept.mono (T := [q.p]) (by simp)).drewN n).setCell (p := ⟨q.p, 8, none⟩) (.inl (by simp)) (.bool true)) (by simp [pdm]) (((hp.atD hd).drew n).set { q with x := rejX q.x } 8 (.bool true) rfl rfl rfl rfl rfl rfl rfl rfl) rfl (fun i hi => .inl hi) (by
        obtain ⟨a1, a2, a3, a4, a5, a6, a7⟩ := HI.out
        exact ⟨a1, a2, a3, a4, a5, a6, a7⟩) rfl)
      clear h hq hst hv hp E E2 hz hb hc2
      go_enter Try.func27, Try.ntmps27
      go_wp2_with fail
      refine HP.out.mono ?_
      rintro e w1 ⟨rfl, hd⟩
      obtain ⟨c5, c8, f8⟩ := HF.out w1 hd
      simp [procV] at c5 c8
      have HG1 := hid (HG.out w1 hd)
      have HC1 := hid (HC.out w1 hd)
      go_wp2_with fail
      go_quiet ((first
        | (go_at_call 43; with_reducible exact HG1.out _)
        | (go_at_call 48; with_reducible exact HC1.out _)))
      go_wp2_with fail
      go_ret
      exact ⟨rfl, HL.out _ hd _⟩
  · have hv : pendV X s.data.toList now = .pointer none := by unfold pendV; rw [if_neg hz]
    have E := hid (show rejC (absW X) s.data.toList g now = pendC (absW X) s.data.toList now by unfold rejC; rw [if_neg hz])
    have E2 := hid (show rejU (absW X) s.data.toList g now = absW X by unfold rejU; rw [E.out, if_neg hz])
    have HH := hid h
    rw [E2.out, E.out]
    rw [hv] at HP
    have hne : (pendC (absW X) s.data.toList now != 0) = true := by simpa using hz
    generalize pendC (absW X) s.data.toList now = c at *
    clear h hv E E2 hz
    go_enter Try.func27, Try.ntmps27
    go_wp2_with fail
    refine HP.out.mono ?_
    rintro e w1 ⟨rfl, hd⟩
    go_wp2_with fail
    go_ret
    exact ⟨rfl, Left.same HH.out hd.kept⟩

/-! ### Take -/
def takX (x : Proc) : Proc := { x with tak := true }
def takeR (U : Wfs) (k : Str) (now : Int) : Str × Str × Int := match alook U k with
  | none => ([], [], 6)
  | some x => if stS x (lim now) = sPending then ([], [], 23) else if stS x (lim now) = sExpired then ([], [], 13) else if stS x (lim now) = sRejected then ([], [], 11) else if x.tak then ([], [], 18) else (x.kind, x.user, 0)
def takeU (U : Wfs) (k : Str) (now : Int) : Wfs := if (takeR U k now).2.2 = 0 then updU U k takX else U
def Took (r : Str × Str × Int) : Ending := .returned (.tuple #[sV r.1, sV r.2.1, .int .i64 r.2.2])
set_option maxHeartbeats 4000000 in
set_option maxRecDepth 100000 in
theorem take_any {w : World} {wb mb : Nat} {X : PXs} (h : WfAt w wb mb X) (s : ByteArray) (hs : s.size ≤ maxLen) (now : Int) :
    Calls Try.prog 22 #[.pointer (some ⟨wb, 0, none⟩), .string s, .int .i64 now] w fun e w' => e = Took (takeR (absW X) s.data.toList now) ∧ Left w w' wb mb X (takeU (absW X) s.data.toList now) := by
  have c0 := h.c0
  have hl := h.look s hs
  cases hq : alook X s.data.toList with
  | none =>
    have E := hid (show takeR (absW X) s.data.toList now = ([], [], 6) by unfold takeR; rw [absW_look, hq]; rfl)
    have E2 := hid (show takeU (absW X) s.data.toList now = absW X by unfold takeU; rw [E.out]; rfl)
    rw [hq, pval_none] at hl
    rw [E.out, E2.out]
    have HH := hid h
    clear h hq
    go_enter Try.func22, Try.ntmps22
    go_wp2_with (go_at_call 35; refine (made_any c0).mono ?_; rintro e w' ⟨rfl, rfl⟩)
    go_ret3
    exact ⟨rfl, Left.same HH.out (Kept.refl _ _)⟩
  | some q =>
    have E := hid (show takeR (absW X) s.data.toList now = if stS q.x (lim now) = sPending then ([], [], 23) else if stS q.x (lim now) = sExpired then ([], [], 13) else if stS q.x (lim now) = sRejected then ([], [], 11) else if q.x.tak then ([], [], 18) else (q.x.kind, q.x.user, 0) by unfold takeR; rw [absW_look, hq]; rfl)
    have E2 := hid (show takeU (absW X) s.data.toList now = if (takeR (absW X) s.data.toList now).2.2 = 0 then updU (absW X) s.data.toList takX else absW X from rfl)
    rw [hq, pval_some] at hl
    have hp := h.map.of_look hq
    have HS := hid (state_any hp (lim now))
    have HF := hid (fun w1 (hd : DrewN w w1) => And.intro ((hp.atD hd).cell 0) (And.intro ((hp.atD hd).cell 1) (And.intro ((hp.atD hd).cell 9) (free_at (hp.atD hd).blk 9))))
    have HI := hid (show Inv q.x from h.inv _ (alook_some hq))
    have HH := hid h
    have HQ := hid hq
    have HX := hid hp
    have HL := hid (fun w1 (hd : DrewN w w1) n => HH.out.upd (q' := { q with x := takX q.x }) (f := takX) hq (((hd.kept.mono (T := [q.p]) (by simp)).setCell (p := ⟨q.p, 9, none⟩) (.inl (by simp)) (.bool true)).drewN n) (by simp [pdm]) (((hp.atD hd).set { q with x := takX q.x } 9 (.bool true) rfl rfl rfl rfl rfl rfl rfl rfl).drew n) rfl (fun i hi => .inl hi) (by
        obtain ⟨a1, a2, a3, a4, a5, a6, a7⟩ := HI.out
        exact ⟨a1, a2, a3, a4, a5, a6, a7⟩) rfl)
    unfold sV at HS
    generalize stS q.x (lim now) = R at *
    clear h hq hp
    by_cases h1 : R = sPending
    · have E3 := hid (show takeR (absW X) s.data.toList now = ([], [], 23) by rw [E.out, if_pos h1])
      have E4 := hid (show takeU (absW X) s.data.toList now = absW X by rw [E2.out, E3.out]; rfl)
      rw [E4.out, E3.out]
      have e1 : (R == sPending) = true := by rw [h1]; exact beq_self_eq_true _
      unfold sPending at e1
      clear h1
      go_enter Try.func22, Try.ntmps22
      go_wp2_with (first
        | (go_at_call 35; refine (made_any c0).mono ?_; rintro e w' ⟨rfl, rfl⟩)
        | (go_at_call 37; refine (wlimited_any _ _).mono ?_; rintro e w' ⟨rfl, rfl⟩)
        | (go_at_call 36; refine HS.out.mono ?_; rintro e w' ⟨rfl, hd⟩))
      go_ret3
      exact ⟨rfl, Left.same HH.out hd.kept⟩
    · have e1 := sV_ne h1
      unfold sPending at e1
      by_cases h2 : R = sExpired
      · have E3 := hid (show takeR (absW X) s.data.toList now = ([], [], 13) by rw [E.out, if_neg h1, if_pos h2])
        have E4 := hid (show takeU (absW X) s.data.toList now = absW X by rw [E2.out, E3.out]; rfl)
        rw [E4.out, E3.out]
        have e2 : (R == sExpired) = true := by rw [h2]; exact beq_self_eq_true _
        unfold sExpired at e2
        clear h1 h2
        go_enter Try.func22, Try.ntmps22
        go_wp2_with (first
          | (go_at_call 35; refine (made_any c0).mono ?_; rintro e w' ⟨rfl, rfl⟩)
          | (go_at_call 37; refine (wlimited_any _ _).mono ?_; rintro e w' ⟨rfl, rfl⟩)
          | (go_at_call 36; refine HS.out.mono ?_; rintro e w' ⟨rfl, hd⟩))
        go_ret3
        exact ⟨rfl, Left.same HH.out hd.kept⟩
      · have e2 := sV_ne h2
        unfold sExpired at e2
        by_cases h3 : R = sRejected
        · have E3 := hid (show takeR (absW X) s.data.toList now = ([], [], 11) by rw [E.out, if_neg h1, if_neg h2, if_pos h3])
          have E4 := hid (show takeU (absW X) s.data.toList now = absW X by rw [E2.out, E3.out]; rfl)
          rw [E4.out, E3.out]
          have e3 : (R == sRejected) = true := by rw [h3]; exact beq_self_eq_true _
          unfold sRejected at e3
          clear h1 h2 h3
          go_enter Try.func22, Try.ntmps22
          go_wp2_with (first
            | (go_at_call 35; refine (made_any c0).mono ?_; rintro e w' ⟨rfl, rfl⟩)
            | (go_at_call 37; refine (wlimited_any _ _).mono ?_; rintro e w' ⟨rfl, rfl⟩)
            | (go_at_call 36; refine HS.out.mono ?_; rintro e w' ⟨rfl, hd⟩))
          go_ret3
          exact ⟨rfl, Left.same HH.out hd.kept⟩
        · have e3 := sV_ne h3
          unfold sRejected at e3
          cases htk : q.x.tak
          · have E3 := hid (show takeR (absW X) s.data.toList now = (q.x.kind, q.x.user, 0) by rw [E.out, if_neg h1, if_neg h2, if_neg h3, htk]; rfl)
            have E4 := hid (show takeU (absW X) s.data.toList now = updU (absW X) s.data.toList takX by rw [E2.out, E3.out]; rfl)
            rw [E4.out, E3.out]
            have HT := hid htk
            clear h1 h2 h3 htk
            go_enter Try.func22, Try.ntmps22
            go_wp2_with (first
              | (go_at_call 35; refine (made_any c0).mono ?_; rintro e w' ⟨rfl, rfl⟩)
              | (go_at_call 37; refine (wlimited_any _ _).mono ?_; rintro e w' ⟨rfl, rfl⟩)
              | (go_at_call 36; refine HS.out.mono ?_; rintro e w' ⟨rfl, hd⟩; obtain ⟨d0, d1, d9, f9⟩ := HF.out w' hd; simp [procV, HT.out, sV] at d0 d1 d9))
            go_quiet (fail)
            go_wp2_with fail
            go_ret3
            exact ⟨rfl, HL.out _ hd _⟩
          · have E3 := hid (show takeR (absW X) s.data.toList now = ([], [], 18) by rw [E.out, if_neg h1, if_neg h2, if_neg h3, htk]; rfl)
            have E4 := hid (show takeU (absW X) s.data.toList now = absW X by rw [E2.out, E3.out]; rfl)
            rw [E4.out, E3.out]
            have HT := hid htk
            clear h1 h2 h3 htk
            go_enter Try.func22, Try.ntmps22
            go_wp2_with (first
              | (go_at_call 35; refine (made_any c0).mono ?_; rintro e w' ⟨rfl, rfl⟩)
              | (go_at_call 37; refine (wlimited_any _ _).mono ?_; rintro e w' ⟨rfl, rfl⟩)
              | (go_at_call 36; refine HS.out.mono ?_; rintro e w' ⟨rfl, hd⟩; obtain ⟨d0, d1, d9, f9⟩ := HF.out w' hd; simp [procV, HT.out, sV] at d0 d1 d9))
            go_ret3
            exact ⟨rfl, Left.same HH.out hd.kept⟩
end Go.Proofs.Ytionejokdfgmhaa
