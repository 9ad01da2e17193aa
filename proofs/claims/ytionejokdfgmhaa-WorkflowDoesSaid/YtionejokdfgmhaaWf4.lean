/- Start of the program. -/
import Derived.Test.YtionejokdfgmhaaWf3
import Derived.Deep.RegionHeld3
namespace Go.Proofs.Ytionejokdfgmhaa
open Go.RowKit Go.Maps

def newX (kind user by_ : Str) (steps : List Stp) (until_ : Int) : Proc := ⟨kind, user, by_, steps, lim until_, 0, 0, [], false, false⟩
def startC (U : Wfs) (k kind user by_ : Str) (steps : List Stp) (until_ now : Int) : Int :=
  if wordB k && wordB kind && wordB user && wordB by_ then (if chkC steps = 0 then (if lim until_ ≤ lim now then 13 else if (alook U k).isSome then 7 else if 256 ≤ U.length then 3 else 0) else chkC steps) else 5
def startU (U : Wfs) (k kind user by_ : Str) (steps : List Stp) (until_ now : Int) : Wfs := if startC U k kind user by_ steps until_ now = 0 then U ++ [(k, newX kind user by_ steps until_)] else U
theorem chk_ok {l : List Stp} (h : chkC l = 0) : 1 ≤ l.length ∧ l.length ≤ 8 ∧ ∀ s ∈ l, wordB s.1 = true ∧ 1 ≤ s.2 ∧ s.2 ≤ 8 := by
  unfold chkC at h
  split at h
  · cases h
  · split at h
    · cases h
    · exact ⟨by omega, by omega, firstE_zero h⟩
theorem newX_inv {kind user by_ : Str} {l : List Stp} {u : Int} (h : chkC l = 0) : Inv (newX kind user by_ l u) := by
  obtain ⟨h1, h2, h3⟩ := chk_ok h
  refine ⟨h1, h2, h3, Nat.zero_le _, fun h => ?_, fun h => ?_, rfl⟩
  · have h4 : 1 ≤ (l[0]'h).2 := (h3 _ (List.getElem_mem h)).2.1
    show ((0 : Nat) : Int) < (l[0]'h).2
    omega
  · have : 0 = l.length := h
    omega
/-- A new process is stored. -/
theorem WfAt.start {w w1 : World} {wb mb : Nat} {X : PXs} (h : WfAt w wb mb X) (s : ByteArray) (hs : s.size ≤ maxLen) (hn : alook X s.data.toList = none) (hl : X.length < 256) {q : PP} (kp : Kept [] w w1) (hc : ProcAt w1 q) (hd : ∀ i ∈ pdm q, w.heap.size ≤ i) (hi : Inv q.x) :
    ∃ w', (Instr.mapUpdate 56 (.map (some mb)) (.string s) (.pointer (some ⟨q.p, 0, none⟩))).run Try.prog w1 = .ok () w' ∧ Left w w' wb mb X (absW X ++ [(s.data.toList, q.x)]) := by
  obtain ⟨w', hr, hm', hk', hsz⟩ := h.map.put procLaw s hs hn kp hc hd lawS Try.underlying9 Try.underlying56 (by unfold maxLen; omega)
  have hw1 : WfAt w1 wb mb X := h.keptN kp
  have hne : wb ≠ mb := fun e => h.out (pdom_mem.2 (.inl e))
  have hin : ∀ i ∈ pdom pdm mb (X ++ [(s.data.toList, q)]), i ∈ pdom pdm mb X ∨ i ∈ pdm q := fun i hi => by
    rcases pdom_mem.1 hi with e | ⟨p, hp, hd⟩
    · exact .inl (pdom_mem.2 (.inl e))
    · rcases List.mem_append.1 hp with hp | hp
      · exact .inl (pdom_mem.2 (.inr ⟨p, hp, hd⟩))
      · rw [List.mem_singleton.1 hp] at hd; exact .inr hd
  refine ⟨w', hr, X ++ [(s.data.toList, q)], ⟨hk'.at hw1.blk (by simpa using hne), hm', fun hi => ?_, by simp; omega, fun p hp => ?_⟩, absW_app _ _ _, ?_, fun i hi => ?_⟩
  · rcases hin _ hi with e | e
    · exact h.out e
    · have := hd _ e; have := lt_of_heap h.blk; omega
  · rcases List.mem_append.1 hp with hp | hp
    · exact h.inv p hp
    · rw [List.mem_singleton.1 hp]; exact hi
  · exact (kp.mono (T := wdom wb mb X) (by simp)).step (hk'.mono (T := [mb]) (by simp)) (fun i hi => by simp at hi; rw [hi]; simp [wdom, pdom])
  · unfold wdom at hi ⊢
    rcases List.mem_cons.1 hi with e | hi
    · exact .inl (by rw [e]; exact List.mem_cons_self ..)
    · rcases hin _ hi with e | e
      · exact .inl (List.mem_cons_of_mem _ e)
      · exact .inr (hd i e)

theorem Left.c0 {w w' : World} {wb mb : Nat} {X : PXs} {U : Wfs} (h : Left w w' wb mb X U) : w'.cell? ⟨wb, 0, none⟩ = some (.map (some mb)) := by obtain ⟨X', h1, _⟩ := h; exact h1.c0
theorem newAt {w0 w : World} {a : Option Addr} {c : Nat} {x : Proc} (o : OwnL 44 2 encT w0 w a c x.steps) (hx : x.appr = []) : ProcAt (w.alloc (.cells (procV ⟨w.heap.size, a, c, none, 0, x⟩) 72 (0, 0))) ⟨w.heap.size, a, c, none, 0, x⟩ :=
  ⟨heap_alloc_new w _, row_kept o.row ((Kept.refl [] w).alloc _) (by simp), by
    show World.ownsRow _ 0 _ 1 (.slice none x.appr.length 0) x.appr.length (rowV encS x.appr)
    rw [hx]; exact World.ownsRow_nil _ _ _ _⟩
theorem newDom {w0 w : World} {a : Option Addr} {c : Nat} {x : Proc} (o : OwnL 44 2 encT w0 w a c x.steps) {m : Nat} (hm : m ≤ w.heap.size) (hm0 : m ≤ w0.heap.size) : ∀ i ∈ pdm ⟨w.heap.size, a, c, none, 0, x⟩, m ≤ i := by
  intro i hi
  simp only [pdm, fp, List.append_nil, List.mem_cons] at hi
  rcases hi with e | e
  · omega
  · exact Nat.le_trans hm0 (o.new i e)

set_option maxHeartbeats 8000000 in
set_option maxRecDepth 100000 in
theorem start_any {w : World} {wb mb : Nat} {X : PXs} (h : WfAt w wb mb X) (s kind user by_ : ByteArray) (hs : s.size ≤ maxLen) (hk : kind.size ≤ maxLen) (hu : user.size ≤ maxLen) (hb : by_.size ≤ maxLen) {a : Option Addr} {cap : Nat} {l : List Stp} (hl : StpsAt w a l) (hsh : ShortT l) (until_ now : Int) :
    Calls Try.prog 18 #[.pointer (some ⟨wb, 0, none⟩), .string s, .string kind, .string user, .string by_, .slice a l.length cap, .int .i64 until_, .int .i64 now] w fun e w' => e = .returned (.int .i64 (startC (absW X) s.data.toList kind.data.toList user.data.toList by_.data.toList l until_ now)) ∧ Left w w' wb mb X (startU (absW X) s.data.toList kind.data.toList user.data.toList by_.data.toList l until_ now) := by
  have c0 := h.c0
  have H1 := hid (word_any s w hs)
  have H2 := hid (word_any kind w hk)
  have H3 := hid (word_any user w hu)
  have H4 := hid (word_any by_ w hb)
  have HH := hid h
  have HCK := hid (check_any (cap := cap) hl hsh)
  obtain ⟨K, HK⟩ : ∃ K, Hid (K = s.data.toList) := ⟨_, hid rfl⟩
  have EC := hid (show startC (absW X) s.data.toList kind.data.toList user.data.toList by_.data.toList l until_ now = if wordB s.data.toList && wordB kind.data.toList && wordB user.data.toList && wordB by_.data.toList then (if chkC l = 0 then (if lim until_ ≤ lim now then 13 else if (alook (absW X) s.data.toList).isSome then 7 else if 256 ≤ (absW X).length then 3 else 0) else chkC l) else 5 from rfl)
  have EU := hid (show startU (absW X) s.data.toList kind.data.toList user.data.toList by_.data.toList l until_ now = if startC (absW X) s.data.toList kind.data.toList user.data.toList by_.data.toList l until_ now = 0 then absW X ++ [(s.data.toList, newX kind.data.toList user.data.toList by_.data.toList l until_)] else absW X from rfl)
  cases w1 : wordB s.data.toList
  · rw [w1] at H1
    have E := hid (show startC (absW X) s.data.toList kind.data.toList user.data.toList by_.data.toList l until_ now = 5 by rw [EC.out, w1]; simp)
    have E2 := hid (show startU (absW X) s.data.toList kind.data.toList user.data.toList by_.data.toList l until_ now = absW X by rw [EU.out, E.out]; rfl)
    rw [E.out, E2.out]
    clear h w1
    go_enter Try.func18, Try.ntmps18
    go_wp2_with (first
      | (go_at_call 35; refine (made_any c0).mono ?_; rintro e w' ⟨rfl, rfl⟩)
      | (go_at_call 37; refine (wlimited_any _ _).mono ?_; rintro e w' ⟨rfl, rfl⟩))
    refine H1.out.mono ?_
    rintro e w' ⟨rfl, rfl⟩
    go_wp2_with fail
    go_ret
    exact ⟨rfl, Left.same HH.out (Kept.refl _ _)⟩
  · rw [w1] at H1
    cases w2 : wordB kind.data.toList
    · rw [w2] at H2
      have E := hid (show startC (absW X) s.data.toList kind.data.toList user.data.toList by_.data.toList l until_ now = 5 by rw [EC.out, w1, w2]; simp)
      have E2 := hid (show startU (absW X) s.data.toList kind.data.toList user.data.toList by_.data.toList l until_ now = absW X by rw [EU.out, E.out]; rfl)
      rw [E.out, E2.out]
      clear h w1 w2
      go_enter Try.func18, Try.ntmps18
      go_wp2_with (first
        | (go_at_call 35; refine (made_any c0).mono ?_; rintro e w' ⟨rfl, rfl⟩)
        | (go_at_call 37; refine (wlimited_any _ _).mono ?_; rintro e w' ⟨rfl, rfl⟩))
      refine H1.out.mono ?_
      rintro e w' ⟨rfl, rfl⟩
      go_wp2_with fail
      refine H2.out.mono ?_
      rintro e w' ⟨rfl, rfl⟩
      go_wp2_with fail
      go_ret
      exact ⟨rfl, Left.same HH.out (Kept.refl _ _)⟩
    · rw [w2] at H2
      cases w3 : wordB user.data.toList
      · rw [w3] at H3
        have E := hid (show startC (absW X) s.data.toList kind.data.toList user.data.toList by_.data.toList l until_ now = 5 by rw [EC.out, w1, w2, w3]; simp)
        have E2 := hid (show startU (absW X) s.data.toList kind.data.toList user.data.toList by_.data.toList l until_ now = absW X by rw [EU.out, E.out]; rfl)
        rw [E.out, E2.out]
        clear h w1 w2 w3
        go_enter Try.func18, Try.ntmps18
        go_wp2_with (first
          | (go_at_call 35; refine (made_any c0).mono ?_; rintro e w' ⟨rfl, rfl⟩)
          | (go_at_call 37; refine (wlimited_any _ _).mono ?_; rintro e w' ⟨rfl, rfl⟩))
        refine H1.out.mono ?_
        rintro e w' ⟨rfl, rfl⟩
        go_wp2_with fail
        refine H2.out.mono ?_
        rintro e w' ⟨rfl, rfl⟩
        go_wp2_with fail
        refine H3.out.mono ?_
        rintro e w' ⟨rfl, rfl⟩
        go_wp2_with fail
        go_ret
        exact ⟨rfl, Left.same HH.out (Kept.refl _ _)⟩
      · rw [w3] at H3
        cases w4 : wordB by_.data.toList
        · rw [w4] at H4
          have E := hid (show startC (absW X) s.data.toList kind.data.toList user.data.toList by_.data.toList l until_ now = 5 by rw [EC.out, w1, w2, w3, w4]; simp)
          have E2 := hid (show startU (absW X) s.data.toList kind.data.toList user.data.toList by_.data.toList l until_ now = absW X by rw [EU.out, E.out]; rfl)
          rw [E.out, E2.out]
          clear h w1 w2 w3 w4
          go_enter Try.func18, Try.ntmps18
          go_wp2_with (first
            | (go_at_call 35; refine (made_any c0).mono ?_; rintro e w' ⟨rfl, rfl⟩)
            | (go_at_call 37; refine (wlimited_any _ _).mono ?_; rintro e w' ⟨rfl, rfl⟩))
          refine H1.out.mono ?_
          rintro e w' ⟨rfl, rfl⟩
          go_wp2_with fail
          refine H2.out.mono ?_
          rintro e w' ⟨rfl, rfl⟩
          go_wp2_with fail
          refine H3.out.mono ?_
          rintro e w' ⟨rfl, rfl⟩
          go_wp2_with fail
          refine H4.out.mono ?_
          rintro e w' ⟨rfl, rfl⟩
          go_wp2_with fail
          go_ret
          exact ⟨rfl, Left.same HH.out (Kept.refl _ _)⟩
        · rw [w4] at H4
          have EC2 := hid (show startC (absW X) s.data.toList kind.data.toList user.data.toList by_.data.toList l until_ now = if chkC l = 0 then (if lim until_ ≤ lim now then 13 else if (alook (absW X) s.data.toList).isSome then 7 else if 256 ≤ (absW X).length then 3 else 0) else chkC l by rw [EC.out, w1, w2, w3, w4]; simp)
          clear w1 w2 w3 w4
          by_cases hc : chkC l = 0
          · rw [hc] at HCK
            have EC3 := hid (show startC (absW X) s.data.toList kind.data.toList user.data.toList by_.data.toList l until_ now = if lim until_ ≤ lim now then 13 else if (alook X s.data.toList).isSome then 7 else if 256 ≤ X.length then 3 else 0 by rw [EC2.out, if_pos hc, absW_look, absW_len]; simp)
            have HCH := hid hc
            clear hc EC EC2
            have hb1 := lim_bd until_
            have hb2 := lim_bd now
            by_cases h13 : lim until_ ≤ lim now
            · have E := hid (show startC (absW X) s.data.toList kind.data.toList user.data.toList by_.data.toList l until_ now = 13 by rw [EC3.out, if_pos h13])
              have E2 := hid (show startU (absW X) s.data.toList kind.data.toList user.data.toList by_.data.toList l until_ now = absW X by rw [EU.out, E.out]; rfl)
              rw [E.out, E2.out]
              clear h
              go_enter Try.func18, Try.ntmps18
              go_wp2_with (first
                | (go_at_call 35; refine (made_any c0).mono ?_; rintro e w' ⟨rfl, rfl⟩)
                | (go_at_call 37; refine (wlimited_any _ _).mono ?_; rintro e w' ⟨rfl, rfl⟩))
              refine H1.out.mono ?_
              rintro e w' ⟨rfl, rfl⟩
              go_wp2_with fail
              refine H2.out.mono ?_
              rintro e w' ⟨rfl, rfl⟩
              go_wp2_with fail
              refine H3.out.mono ?_
              rintro e w' ⟨rfl, rfl⟩
              go_wp2_with fail
              refine H4.out.mono ?_
              rintro e w' ⟨rfl, rfl⟩
              go_wp2_with fail
              refine HCK.out.mono ?_
              rintro e w5 ⟨rfl, k5⟩
              go_wp2_with fail
              go_ret
              exact ⟨rfl, Left.same HH.out k5⟩
            · have EC4 := hid (show startC (absW X) s.data.toList kind.data.toList user.data.toList by_.data.toList l until_ now = if (alook X s.data.toList).isSome then 7 else if 256 ≤ X.length then 3 else 0 by rw [EC3.out, if_neg h13])
              have h13' : lim now < lim until_ := by omega
              clear h13
              cases hq : alook X s.data.toList with
              | some q =>
                have E := hid (show startC (absW X) s.data.toList kind.data.toList user.data.toList by_.data.toList l until_ now = 7 by rw [EC4.out, hq]; rfl)
                have E2 := hid (show startU (absW X) s.data.toList kind.data.toList user.data.toList by_.data.toList l until_ now = absW X by rw [EU.out, E.out]; rfl)
                rw [E.out, E2.out]
                have HQ := hid hq
                clear h hq
                go_enter Try.func18, Try.ntmps18
                go_wp2_with (first
                  | (go_at_call 35; refine (made_any c0).mono ?_; rintro e w' ⟨rfl, rfl⟩)
                  | (go_at_call 37; refine (wlimited_any _ _).mono ?_; rintro e w' ⟨rfl, rfl⟩))
                refine H1.out.mono ?_
                rintro e w' ⟨rfl, rfl⟩
                go_wp2_with fail
                refine H2.out.mono ?_
                rintro e w' ⟨rfl, rfl⟩
                go_wp2_with fail
                refine H3.out.mono ?_
                rintro e w' ⟨rfl, rfl⟩
                go_wp2_with fail
                refine H4.out.mono ?_
                rintro e w' ⟨rfl, rfl⟩
                go_wp2_with fail
                refine HCK.out.mono ?_
                rintro e w5 ⟨rfl, k5⟩
                have h5 := HH.out.keptN k5
                have c05 := h5.c0
                have hl5 := h5.look s hs
                have hn5 := h5.lenrun
                rw [HQ.out, pval_some] at hl5
                clear h5
                go_wp2_with fail
                go_ret
                exact ⟨rfl, Left.same HH.out k5⟩
              | none =>
                have HQ := hid hq
                by_cases h256 : 256 ≤ X.length
                · have E := hid (show startC (absW X) s.data.toList kind.data.toList user.data.toList by_.data.toList l until_ now = 3 by rw [EC4.out, hq, if_neg (by simp), if_pos h256])
                  have E2 := hid (show startU (absW X) s.data.toList kind.data.toList user.data.toList by_.data.toList l until_ now = absW X by rw [EU.out, E.out]; rfl)
                  rw [E.out, E2.out]
                  have h256' : (256 : Int) ≤ X.length := by omega
                  clear h hq h256
                  go_enter Try.func18, Try.ntmps18
                  go_wp2_with (first
                    | (go_at_call 35; refine (made_any c0).mono ?_; rintro e w' ⟨rfl, rfl⟩)
                    | (go_at_call 37; refine (wlimited_any _ _).mono ?_; rintro e w' ⟨rfl, rfl⟩))
                  refine H1.out.mono ?_
                  rintro e w' ⟨rfl, rfl⟩
                  go_wp2_with fail
                  refine H2.out.mono ?_
                  rintro e w' ⟨rfl, rfl⟩
                  go_wp2_with fail
                  refine H3.out.mono ?_
                  rintro e w' ⟨rfl, rfl⟩
                  go_wp2_with fail
                  refine H4.out.mono ?_
                  rintro e w' ⟨rfl, rfl⟩
                  go_wp2_with fail
                  refine HCK.out.mono ?_
                  rintro e w5 ⟨rfl, k5⟩
                  have h5 := HH.out.keptN k5
                  have c05 := h5.c0
                  have hl5 := h5.look s hs
                  have hn5 := h5.lenrun
                  rw [HQ.out, pval_none] at hl5
                  clear h5
                  go_wp2_with fail
                  go_ret
                  exact ⟨rfl, Left.same HH.out k5⟩
                · have E := hid (show startC (absW X) s.data.toList kind.data.toList user.data.toList by_.data.toList l until_ now = 0 by rw [EC4.out, hq, if_neg (by simp), if_neg h256])
                  have E2 := hid (show startU (absW X) s.data.toList kind.data.toList user.data.toList by_.data.toList l until_ now = absW X ++ [(s.data.toList, newX kind.data.toList user.data.toList by_.data.toList l until_)] by rw [EU.out, E.out]; rfl)
                  rw [E.out, E2.out]
                  have h256' : (X.length : Int) < 256 := by omega
                  have hlen8 : l.length ≤ 8 := (chk_ok HCH.out).2.1
                  clear h hq h256
                  go_enter Try.func18, Try.ntmps18
                  go_wp2_with (first
                    | (go_at_call 35; refine (made_any c0).mono ?_; rintro e w' ⟨rfl, rfl⟩)
                    | (go_at_call 37; refine (wlimited_any _ _).mono ?_; rintro e w' ⟨rfl, rfl⟩))
                  refine H1.out.mono ?_
                  rintro e w' ⟨rfl, rfl⟩
                  go_wp2_with fail
                  refine H2.out.mono ?_
                  rintro e w' ⟨rfl, rfl⟩
                  go_wp2_with fail
                  refine H3.out.mono ?_
                  rintro e w' ⟨rfl, rfl⟩
                  go_wp2_with fail
                  refine H4.out.mono ?_
                  rintro e w' ⟨rfl, rfl⟩
                  go_wp2_with fail
                  refine HCK.out.mono ?_
                  rintro e w5 ⟨rfl, k5⟩
                  have h5 := HH.out.keptN k5
                  have c05 := h5.c0
                  have hl5 := h5.look s hs
                  have hn5 := h5.lenrun
                  rw [HQ.out, pval_none] at hl5
                  clear h5
                  have HSZ5 := hid (show w.heap.size ≤ w5.drew.heap.size from k5.size)
                  have HCL := hid (cloneT_any (cap := cap) (hl.keptN (k5.drew)) (by omega))
                  have HC0 := hid (fun wq (kq : Kept [] w5 wq) => (HH.out.keptN (k5.step kq (by simp))).c0)
                  have HST := hid (fun wq (kq : Kept [] w5 wq) (q : PP) (hcq : ProcAt wq q) (hdq : ∀ i ∈ pdm q, w.heap.size ≤ i) (hiq : Inv q.x) => HH.out.start s hs HQ.out (by omega) (k5.step kq (by simp)) hcq hdq hiq)
                  go_wp2_with fail
                  go_region_held3 (fun w' => w'.cell? ⟨wb, 0, none⟩ = some (.map (some mb)))
                    (first
                      | exact HC0.out _ (((Kept.refl [] w5).drew.step k6 (by simp)).alloc _)
                      | exact HC0.out _ ((Kept.refl [] w5).drew.step k6 (by simp))
                      | exact HC0.out _ (Kept.refl [] w5).drew
                      | exact hL9.c0)
                    ((go_at_call 42; refine HCL.out.mono ?_; rintro e w6 ⟨a6, c6, rfl, o6⟩; have k6 := o6.kept; have hs6 := Nat.le_trans HSZ5.out k6.size; obtain ⟨w9, hr9, hL9⟩ := HST.out _ (((Kept.refl [] w5).drew.step k6 (by simp)).alloc (.cells (procV ⟨w6.heap.size, a6, c6, none, 0, newX kind.data.toList user.data.toList by_.data.toList l until_⟩) 72 (0, 0))) ⟨w6.heap.size, a6, c6, none, 0, newX kind.data.toList user.data.toList by_.data.toList l until_⟩ (newAt o6 rfl) (newDom o6 hs6 HSZ5.out) (newX_inv HCH.out); simp [procV, newX, sV] at hr9))
                  go_wp2_with fail
                  go_ret
                  exact ⟨rfl, hL9⟩
          · have E := hid (show startC (absW X) s.data.toList kind.data.toList user.data.toList by_.data.toList l until_ now = chkC l by rw [EC2.out, if_neg hc])
            have E2 := hid (show startU (absW X) s.data.toList kind.data.toList user.data.toList by_.data.toList l until_ now = absW X by rw [EU.out, E.out, if_neg hc])
            rw [E.out, E2.out]
            have hne : (chkC l != 0) = true := by simpa using hc
            generalize chkC l = c at *
            clear h hc
            go_enter Try.func18, Try.ntmps18
            go_wp2_with (first
              | (go_at_call 35; refine (made_any c0).mono ?_; rintro e w' ⟨rfl, rfl⟩)
              | (go_at_call 37; refine (wlimited_any _ _).mono ?_; rintro e w' ⟨rfl, rfl⟩))
            refine H1.out.mono ?_
            rintro e w' ⟨rfl, rfl⟩
            go_wp2_with fail
            refine H2.out.mono ?_
            rintro e w' ⟨rfl, rfl⟩
            go_wp2_with fail
            refine H3.out.mono ?_
            rintro e w' ⟨rfl, rfl⟩
            go_wp2_with fail
            refine H4.out.mono ?_
            rintro e w' ⟨rfl, rfl⟩
            go_wp2_with fail
            refine HCK.out.mono ?_
            rintro e w5 ⟨rfl, k5⟩
            go_wp2_with fail
            go_ret
            exact ⟨rfl, Left.same HH.out k5⟩
end Go.Proofs.Ytionejokdfgmhaa
