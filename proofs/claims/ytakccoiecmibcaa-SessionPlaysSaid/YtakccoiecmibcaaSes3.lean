/- Present, Join, End of the program. -/
import Derived.Test.YtakccoiecmibcaaSes2
namespace Go.Proofs.Ytakccoiecmibcaa
open Go.RowKit Go.Maps

theorem EntAt.p_ca {w : World} {q : EP} (h : EntAt w q) : q.p ∉ fp q.ca := by
  intro hi
  obtain ⟨cur, hc⟩ := row_blk h.clis _ hi
  rw [h.blk] at hc
  injection hc with hc
  injection hc with _ hc _
  exact absurd hc (by decide)
theorem EntAt.p_pa {w : World} {q : EP} (h : EntAt w q) : q.p ∉ fp q.pa := by
  intro hi
  obtain ⟨cur, hc⟩ := row_blk h.prfs _ hi
  rw [h.blk] at hc
  injection hc with hc
  injection hc with _ hc _
  exact absurd hc (by decide)
theorem ownl_of_row {α : Type} {E : TypeId} {sz : Nat} {enc : α → List Value} {w : World} {a : Option Addr} {cap : Nat} {l : List α} (h : w.ownsRow 0 E sz (.slice a l.length cap) l.length (rowV enc l)) : OwnL E sz enc { w with heap := #[] } w a cap l :=
  ⟨h, ⟨rfl, rfl, rfl, by simp, fun k hk => by simp at hk⟩, fun i _ => by simp⟩
theorem fp_types {w : World} {a b : Option Addr} {e e' : TypeId} (hne : e ≠ e') (ha : ∀ i ∈ fp a, ∃ cur, w.heap[i]? = some (.cells cur e (0, 0))) (hb : ∀ i ∈ fp b, ∃ cur, w.heap[i]? = some (.cells cur e' (0, 0))) : ∀ i ∈ fp a, i ∉ fp b := by
  intro i hi hj
  obtain ⟨c1, h1⟩ := ha i hi
  obtain ⟨c2, h2⟩ := hb i hj
  rw [h1] at h2
  injection h2 with h2
  injection h2 with _ h2 _
  exact hne h2
theorem box_str (w : World) (x : ByteArray) (t : TypeId) : StrsAt (w.alloc (.cells #[.string x] t (0, 0))) (some ⟨w.heap.size, 0, none⟩) [x.data.toList] :=
  list_box encSOk (heap_alloc_new w _) (by simp [rowV, encS, sV]) (by simp [maxLen])
/-- The list of proofs is another one now. -/
theorem EntAt.newp {w0 w : World} {q : EP} (h : EntAt w q) {a' : Option Addr} {c' : Nat} {M : List Prf} (o : OwnP w0 w a' c' M) (hq : q.p < w0.heap.size) : EntAt (w.setCell ⟨q.p, 7, none⟩ (.slice a' M.length c')) { q with pa := a', pc := c', x := { q.x with proofs := M } } := by
  have hb := heap_setCell_same w q.p 7 _ _ (.slice a' M.length c') h.blk
  have k := kept_one q.p w 7 (.slice a' M.length c')
  refine ⟨hb, ?_, ?_⟩
  · refine row_kept o.row k (fun i hi hm => ?_)
    simp at hm; subst hm
    have := o.new _ hi; omega
  · refine row_kept h.clis k (fun i hi hm => ?_)
    simp at hm; subst hm
    exact h.p_ca hi
/-- The list of clients has grown, and its new header is stored. -/
theorem EntAt.appc {w w2 : World} {q : EP} (h : EntAt w q) (b : Str) (k : Kept (fp q.ca) w w2) {a' : Option Addr} {cap' : Nat} (ho : w2.ownsRow 0 9 1 (.slice a' (q.x.clients ++ [b]).length cap') (q.x.clients ++ [b]).length (rowV encS (q.x.clients ++ [b]))) (hf : ∀ i ∈ fp a', i ∈ fp q.ca ∨ w.heap.size ≤ i) :
    EntAt (w2.setCell ⟨q.p, 8, none⟩ (.slice a' (q.x.clients ++ [b]).length cap')) { q with ca := a', cc := cap', x := { q.x with clients := q.x.clients ++ [b] } } := by
  have hpl := lt_of_heap h.blk
  have hb2 := k.at h.blk h.p_ca
  have hb := heap_setCell_same w2 q.p 8 _ _ (.slice a' (q.x.clients ++ [b]).length cap') hb2
  have k2 := kept_one q.p w2 8 (.slice a' (q.x.clients ++ [b]).length cap')
  refine ⟨hb, ?_, ?_⟩
  · refine row_kept (row_kept h.prfs k (fp_types (by decide) (row_blk h.prfs) (row_blk h.clis))) k2 (fun i hi hm => ?_)
    simp at hm; subst hm
    exact h.p_pa hi
  · refine row_kept ho k2 (fun i hi hm => ?_)
    simp at hm; subst hm
    rcases hf _ hi with e | e
    · exact h.p_ca e
    · omega
set_option maxHeartbeats 400000 in
theorem cloneS_any {w : World} {a : Option Addr} {cap : Nat} {l : List Str} (h : StrsAt w a l) (hlen : l.length ≤ 100000) :
    Calls Try.prog 38 #[.slice a l.length cap] w fun e w' => ∃ a' cap', e = .returned (.slice a' l.length cap') ∧ OwnL 9 1 encS w w' a' cap' l := by
  have hq : ∀ (w : World) (a : Option Addr) (n c : Nat), (binOp .eql 31 (.slice a n c) (.slice none 0 0)).run Try.prog w = .ok (.bool a.isNone) w := fun w a n c => Lib.run_eql_slice_nil w _ _ a n c 0 0 Try.underlying31
  cases a with
  | none =>
    have hl0 : l = [] := by
      rcases h.cells with h0 | ⟨b, off, e, _⟩
      · exact h0
      · cases e
    subst hl0
    go_enter Try.func38, Try.ntmps38
    go_wp2_with fail
    go_ret
    exact ⟨none, 0, rfl, OwnL.start w⟩
  | some ad =>
    have hd := h.keptN ((Kept.refl [] w).alloc (.cells #[] 9 (0, 0)))
    obtain ⟨M, HM⟩ : ∃ M, Hid (M = [] ++ l) := ⟨_, hid rfl⟩
    go_enter Try.func38, Try.ntmps38
    go_wp2_with (at_builtin; refine wp_appL encSOk Try.underlying31 HM.out (OwnL.made w) hd (by simp; omega) rfl _ _ rfl rfl rfl rfl rfl ?_; intro a' cap' w1 o1 k1 f1)
    go_ret
    have hml : M = l := by rw [HM.out]; rfl
    subst hml
    exact ⟨a', cap', rfl, o1⟩

/-! ### Present -/
set_option maxHeartbeats 4000000 in
set_option maxRecDepth 100000 in
theorem present_any {w : World} {sb mb : Nat} {idle abs : Int} {X : EXs} (h : SesAt w sb mb idle abs X) (s : ByteArray) (hs : s.size ≤ maxLen) (p : Prf) (now : Int) :
    Calls Try.prog 29 #[.pointer (some ⟨sb, 0, none⟩), .string s, prfV p, .int .i64 now] w fun e w' => e = .returned (.int .i64 (presC (absW X) s.data.toList p now)) ∧ Left w w' sb mb idle abs X (presU (absW X) s.data.toList p now) := by
  have hbx := heap_alloc_new w (.cells #[.int .i64 p.1, .int .i64 p.2] 59 (0, 0))
  have hk0 := (Kept.refl [] w).alloc (.cells #[.int .i64 p.1, .int .i64 p.2] 59 (0, 0))
  obtain ⟨w0, HW0⟩ : ∃ w0, Hid (w0 = w.alloc (.cells #[.int .i64 p.1, .int .i64 p.2] 59 (0, 0))) := ⟨_, hid rfl⟩
  rw [← HW0.out] at hbx hk0
  have HK0 := hid hk0
  have HB := hid hbx
  have h0 := h.keptN hk0
  have HF := hid (find_any h0 s hs now)
  by_cases hz : findC (absW X) s.data.toList now = 0
  · obtain ⟨q, hq, hv, hen, hun⟩ := find_ptr hz
    have E0 := hid (show presC (absW X) s.data.toList p now = addE p by unfold presC; rw [if_pos hz])
    rw [hz, hv] at HF
    have hp := h0.map.of_look hq
    have hin := h.good.look (id := s.data.toList) (x := q.x) (by rw [absW_look, hq]; rfl)
    have hl4 := hin.prfs.few
    have HIN := hid hin
    have HH := hid h
    have HQ := hid hq
    have HP := hid hp
    have hqw := hid (lt_of_heap (h.map.of_look hq).blk)
    have HCELL := hid (fun wq (k : Kept [] w0 wq) => (show wq.cell? ⟨q.p, 7, none⟩ = some (.slice q.pa q.x.proofs.length q.pc) ∧ wq.cell? ⟨w.heap.size, 0, none⟩ = some (.int .i64 p.1) ∧ wq.cell? ⟨w.heap.size, 1, none⟩ = some (.int .i64 p.2) from ⟨(HP.out.keptN k).ec.c7, by rw [cell_at (k.at HB.out (by simp))]; rfl, by rw [cell_at (k.at HB.out (by simp))]; rfl⟩))
    by_cases he : addE p = 0
    · have E := hid (show presU (absW X) s.data.toList p now = updU (absW X) s.data.toList (presX p) by unfold presU; rw [E0.out, if_pos he])
      rw [E.out, E0.out, he]
      have HI := hid (hin.pres he)
      have HAD := hid (fun wq (k : Kept [] w0 wq) => (padd_any (cap := q.pc) (HP.out.keptN k).prf (by omega) p).mono fun _ _ h => h.ok he)
      clear h h0 hq hv hz hp hen hun hin he hk0 hbx
      go_enter Try.func29, Try.ntmps29
      go_wp2_with fail
      rw [← HW0.out]
      refine HF.out.mono ?_
      rintro e w1 ⟨rfl, hd⟩
      have HD := hid hd.kept
      have HAD1 := hid (HAD.out _ (HD.out.drew))
      clear hd
      go_wp2_with fail
      go_region_held3 (fun w' => w'.cell? ⟨q.p, 7, none⟩ = some (.slice q.pa q.x.proofs.length q.pc) ∧ w'.cell? ⟨w.heap.size, 0, none⟩ = some (.int .i64 p.1) ∧ w'.cell? ⟨w.heap.size, 1, none⟩ = some (.int .i64 p.2))
        (first
          | exact HCELL.out _ (HD.out.drew.step o2.kept (by simp))
          | exact HCELL.out _ HD.out.drew)
        ((go_at_call 33; refine HAD1.out.mono ?_; rintro e w2 ⟨a2, c2, rfl, o2⟩))
      have HK2 := hid (HD.out.drew.step o2.kept (by simp))
      have HP2 := hid (HP.out.keptN HK2.out)
      have f7 := HP2.out.free 7
      have HO2 := hid o2
      clear o2
      go_wp2_with fail
      go_ret
      have hsz := HK0.out.size
      have hsz2 := HD.out.size
      refine ⟨rfl, HH.out.upd HQ.out (S := [q.p]) (((HK0.out.step HK2.out (by simp)).mono (by simp)).step (kept_one q.p w2 7 _) (fun _ hi => hi)) (fun i hi => .inl (by simp at hi; subst hi; simp [edm])) (q' := { q with pa := a2, pc := c2, x := presX p q.x }) (HP2.out.newp HO2.out (by have := hqw.out; have := HD.out.drew.size; omega)) rfl rfl (fun i hi => ?_) rfl HI.out⟩
      simp only [edm, List.mem_cons, List.mem_append] at hi ⊢
      rcases hi with e | e | e
      · exact .inl (.inl e)
      · right
        have := HO2.out.new i e
        have := HD.out.drew.size
        omega
      · exact .inl (.inr (.inr e))
    · have E := hid (show presU (absW X) s.data.toList p now = absW X by unfold presU; rw [E0.out, if_neg he])
      rw [E.out, E0.out]
      have HAD := hid (fun wq (k : Kept [] w0 wq) => (padd_any (cap := q.pc) (HP.out.keptN k).prf (by omega) p).mono fun _ _ h => h.err he)
      have hne : (addE p != 0) = true := by simpa using he
      generalize addE p = c at *
      clear h h0 hq hv hz hp hen hun hin he hk0 hbx
      go_enter Try.func29, Try.ntmps29
      go_wp2_with fail
      rw [← HW0.out]
      refine HF.out.mono ?_
      rintro e w1 ⟨rfl, hd⟩
      have HD := hid hd.kept
      have HAD1 := hid (HAD.out _ (HD.out.drew))
      clear hd
      go_wp2_with fail
      go_region_held3 (fun w' => w'.cell? ⟨q.p, 7, none⟩ = some (.slice q.pa q.x.proofs.length q.pc) ∧ w'.cell? ⟨w.heap.size, 0, none⟩ = some (.int .i64 p.1) ∧ w'.cell? ⟨w.heap.size, 1, none⟩ = some (.int .i64 p.2))
        (first
          | exact HCELL.out _ (HD.out.drew.step k2 (by simp))
          | exact HCELL.out _ HD.out.drew)
        ((go_at_call 33; refine HAD1.out.mono ?_; rintro e w2 ⟨rfl, k2⟩))
      go_wp2_with fail
      go_ret
      exact ⟨rfl, Left.same HH.out (HK0.out.step (HD.out.drew.step k2 (by simp)) (by simp))⟩
  · have E0 := hid (show presC (absW X) s.data.toList p now = findC (absW X) s.data.toList now by unfold presC; rw [if_neg hz])
    have E := hid (show presU (absW X) s.data.toList p now = absW X by unfold presU; rw [E0.out, if_neg hz])
    have hne : (findC (absW X) s.data.toList now != 0) = true := by simpa using hz
    rw [find_nptr hz] at HF
    rw [E.out, E0.out]
    have HH := hid h
    generalize findC (absW X) s.data.toList now = c at *
    clear h h0 hz hk0 hbx
    go_enter Try.func29, Try.ntmps29
    go_wp2_with fail
    rw [← HW0.out]
    refine HF.out.mono ?_
    rintro e w1 ⟨rfl, hd⟩
    have HD := hid hd.kept
    clear hd
    go_wp2_with fail
    go_ret
    exact ⟨rfl, Left.same HH.out (HK0.out.step HD.out (by simp))⟩

/-! ### Join -/
theorem join_has {X : EXs} {k c : Str} {now : Int} {q : EP} (hz : findC (absW X) k now = 0) (hq : alook X k = some q) : joinC (absW X) k c now = if wordB c then (if hasS q.x.clients c then 0 else if 256 ≤ q.x.clients.length then 3 else 0) else 5 := by
  unfold joinC clientsOf
  rw [if_pos hz, absW_look, hq]
  rfl
set_option maxHeartbeats 4000000 in
set_option maxRecDepth 100000 in
theorem join_any {w : World} {sb mb : Nat} {idle abs : Int} {X : EXs} (h : SesAt w sb mb idle abs X) (s c : ByteArray) (hs : s.size ≤ maxLen) (hc : c.size ≤ maxLen) (now : Int) :
    Calls Try.prog 12 #[.pointer (some ⟨sb, 0, none⟩), .string s, .string c, .int .i64 now] w fun e w' => e = .returned (.int .i64 (joinC (absW X) s.data.toList c.data.toList now)) ∧ Left w w' sb mb idle abs X (joinU (absW X) s.data.toList c.data.toList now) := by
  have HF := hid (find_any h s hs now)
  by_cases hz : findC (absW X) s.data.toList now = 0
  · obtain ⟨q, hq, hv, hen, hun⟩ := find_ptr hz
    have E0 := hid (join_has (c := c.data.toList) hz hq)
    rw [hz, hv] at HF
    have hp := h.map.of_look hq
    have hin := h.good.look (id := s.data.toList) (x := q.x) (by rw [absW_look, hq]; rfl)
    have hfew := hin.few
    have HH := hid h
    have HQ := hid hq
    have HP := hid hp
    have HWD := hid (fun wq => word_any c wq hc)
    cases hw : wordB c.data.toList
    · have E1 := hid (show joinC (absW X) s.data.toList c.data.toList now = 5 by rw [E0.out, hw]; rfl)
      have E := hid (show joinU (absW X) s.data.toList c.data.toList now = absW X by unfold joinU; rw [E1.out]; rfl)
      rw [E.out, E1.out]
      rw [hw] at HWD
      clear h hq hv hz hp hen hun hin hw E0
      go_enter Try.func12, Try.ntmps12
      go_wp2_with fail
      refine HF.out.mono ?_
      rintro e w1 ⟨rfl, hd⟩
      have HD := hid hd.kept
      clear hd
      go_wp2_with (go_at_call 32; refine (HWD.out _).mono ?_; rintro e w2 ⟨rfl, rfl⟩)
      go_ret
      exact ⟨rfl, Left.same HH.out HD.out⟩
    · rw [hw] at HWD
      cases hb : hasS q.x.clients c.data.toList
      · by_cases hf : 256 ≤ q.x.clients.length
        · have E1 := hid (show joinC (absW X) s.data.toList c.data.toList now = 3 by rw [E0.out, hw, hb]; simp [hf])
          have E := hid (show joinU (absW X) s.data.toList c.data.toList now = absW X by unfold joinU; rw [E1.out]; rfl)
          rw [E.out, E1.out]
          have HC := hid (fun wq (k : Kept [] w wq) => contains_any (cap := q.cc) (HP.out.keptN k).cli c)
          rw [hb] at HC
          clear h hq hv hz hp hen hun hin hw E0 hb
          go_enter Try.func12, Try.ntmps12
          go_wp2_with fail
          refine HF.out.mono ?_
          rintro e w1 ⟨rfl, hd⟩
          have HD := hid hd.kept
          have d8 := (HP.out.keptN hd.kept).ec.c8
          clear hd
          go_wp2_with (first
            | (go_at_call 32; refine (HWD.out _).mono ?_; rintro e w2 ⟨rfl, rfl⟩)
            | (go_at_call 36; refine (HC.out _ HD.out).mono ?_; rintro e w2 ⟨rfl, rfl⟩))
          go_ret
          exact ⟨rfl, Left.same HH.out HD.out⟩
        · have E1 := hid (show joinC (absW X) s.data.toList c.data.toList now = 0 by rw [E0.out, hw, hb]; simp [hf])
          have E := hid (show joinU (absW X) s.data.toList c.data.toList now = updU (absW X) s.data.toList (joinX c.data.toList) by unfold joinU; rw [E1.out]; rfl)
          rw [E.out, E1.out]
          have HC := hid (fun wq (k : Kept [] w wq) => contains_any (cap := q.cc) (HP.out.keptN k).cli c)
          rw [hb] at HC
          have HI := hid (hin.join (c := c.data.toList) (.inr (by omega)))
          have HJ := hid (show joinX c.data.toList q.x = { q.x with clients := q.x.clients ++ [c.data.toList] } by unfold joinX; rw [if_neg (by rw [show q.x.clients.any (eqC c.data.toList) = false from hb]; simp)])
          have hf2 : (q.x.clients.length : Int) < 256 := by omega
          obtain ⟨M, HM⟩ : ∃ M, Hid (M = q.x.clients ++ [c.data.toList]) := ⟨_, hid rfl⟩
          clear h hq hv hz hp hen hun hin hw E0 hb
          go_enter Try.func12, Try.ntmps12
          go_wp2_with fail
          refine HF.out.mono ?_
          rintro e w1 ⟨rfl, hd⟩
          have HD := hid hd.kept
          have d8 := (HP.out.keptN hd.kept).ec.c8
          have HP1 := hid (HP.out.keptN (hd.kept.alloc (.cells #[.string c] 9 (0, 0))))
          have f8 := (HP.out.keptN hd.kept).free 8
          clear hd
          go_wp2_with (first
            | (go_at_call 32; refine (HWD.out _).mono ?_; rintro e w2 ⟨rfl, rfl⟩)
            | (go_at_call 36; refine (HC.out _ HD.out).mono ?_; rintro e w2 ⟨rfl, rfl⟩)
            | (at_builtin; refine wp_appL encSOk Try.underlying31 HM.out (ownl_of_row HP1.out.clis) (box_str _ c _) (show q.x.clients.length + [c.data.toList].length ≤ 1000000 by simp; omega) rfl _ _ rfl rfl rfl rfl rfl ?_; intro a' cap' w3 ho3 hk3 hf3; have hb3 := hk3.at HP1.out.blk HP1.out.p_ca; have f8' := free_at hb3 8; have d8' := cell_at hb3 8; simp [entV] at d8'))
          go_ret
          have HA := HP1.out.appc c.data.toList hk3 (by rw [← HM.out]; exact ho3.row) hf3
          rw [← HM.out] at HA
          have hsz : w.heap.size ≤ (w1.alloc (.cells #[.string c] 9 (0, 0))).heap.size := (HD.out.alloc _).size
          refine ⟨rfl, HH.out.upd HQ.out (S := q.p :: fp q.ca) ((((HD.out.alloc (.cells #[.string c] 9 (0, 0))).mono (by simp)).step hk3 (fun i hi => List.mem_cons_of_mem _ hi)).step (kept_one q.p w3 8 _) (fun i hi => by simp at hi; simp [hi])) (fun i hi => .inl (by simp only [edm, List.mem_cons, List.mem_append] at hi ⊢; exact hi.elim .inl (fun e => .inr (.inr e)))) (q' := { q with ca := a', cc := cap', x := { q.x with clients := M } }) HA rfl rfl (fun i hi => ?_) (by rw [HJ.out, ← HM.out]) HI.out⟩
          simp only [edm, List.mem_cons, List.mem_append] at hi ⊢
          rcases hi with e | e | e
          · exact .inl (.inl e)
          · exact .inl (.inr (.inl e))
          · rcases hf3 i e with e2 | e2
            · exact .inl (.inr (.inr e2))
            · exact .inr (by omega)
      · have E1 := hid (show joinC (absW X) s.data.toList c.data.toList now = 0 by rw [E0.out, hw, hb]; rfl)
        have hJ : joinX c.data.toList q.x = q.x := by unfold joinX; rw [if_pos (show q.x.clients.any (eqC c.data.toList) = true from hb)]
        have HC := hid (fun wq (k : Kept [] w wq) => contains_any (cap := q.cc) (HP.out.keptN k).cli c)
        rw [hb] at HC
        have E := hid (show joinU (absW X) s.data.toList c.data.toList now = updU (absW X) s.data.toList (joinX c.data.toList) by unfold joinU; rw [E1.out]; rfl)
        have HI := hid (hin.join (c := c.data.toList) (.inl (show q.x.clients.any (eqC c.data.toList) = true from hb)))
        have HJ := hid hJ
        rw [E1.out, E.out]
        clear h hq hv hz hp hen hun hin hw E0 hb hJ
        go_enter Try.func12, Try.ntmps12
        go_wp2_with fail
        refine HF.out.mono ?_
        rintro e w1 ⟨rfl, hd⟩
        have HD := hid hd.kept
        have d8 := (HP.out.keptN hd.kept).ec.c8
        clear hd
        go_wp2_with (first
          | (go_at_call 32; refine (HWD.out _).mono ?_; rintro e w2 ⟨rfl, rfl⟩)
          | (go_at_call 36; refine (HC.out _ HD.out).mono ?_; rintro e w2 ⟨rfl, rfl⟩))
        go_ret
        exact ⟨rfl, HH.out.upd HQ.out (S := []) HD.out (by simp) (HP.out.keptN HD.out) rfl rfl (fun i hi => .inl hi) HJ.out.symm HI.out⟩
  · have E0 := hid (show joinC (absW X) s.data.toList c.data.toList now = findC (absW X) s.data.toList now by unfold joinC; rw [if_neg hz])
    have E := hid (show joinU (absW X) s.data.toList c.data.toList now = absW X by unfold joinU; rw [E0.out, if_neg hz])
    have hne : (findC (absW X) s.data.toList now != 0) = true := by simpa using hz
    rw [find_nptr hz] at HF
    rw [E.out, E0.out]
    have HH := hid h
    generalize findC (absW X) s.data.toList now = c at *
    clear h hz
    go_enter Try.func12, Try.ntmps12
    go_wp2_with fail
    refine HF.out.mono ?_
    rintro e w1 ⟨rfl, hd⟩
    have HD := hid hd.kept
    clear hd
    go_wp2_with fail
    go_ret
    exact ⟨rfl, Left.same HH.out HD.out⟩

/-! ### End -/
/-- What a writing call leaves that takes no new blocks for the sessions. -/
def LeftS (w w' : World) (sb mb : Nat) (idle abs : Int) (X : EXs) (U' : Sss) : Prop := ∃ X', SesAt w' sb mb idle abs X' ∧ absW X' = U' ∧ Kept (sdom sb mb X) w w' ∧ ∀ i ∈ sdom sb mb X', i ∈ sdom sb mb X
theorem LeftS.left {w w' : World} {sb mb : Nat} {idle abs : Int} {X : EXs} {U' : Sss} (h : LeftS w w' sb mb idle abs X U') : Left w w' sb mb idle abs X U' := by
  obtain ⟨X', h1, e, k, hd⟩ := h
  exact ⟨X', h1, e, k, fun i hi => .inl (hd i hi)⟩
theorem LeftS.same {w w' : World} {sb mb : Nat} {idle abs : Int} {X : EXs} (h : SesAt w sb mb idle abs X) (k : Kept [] w w') : LeftS w w' sb mb idle abs X (absW X) :=
  ⟨X, h.keptN k, rfl, k.mono (by simp), fun _ hi => hi⟩
theorem SesAt.updS {S : List Nat} {w w' : World} {sb mb : Nat} {idle abs : Int} {X : EXs} (h : SesAt w sb mb idle abs X) {k : Str} {q q' : EP} (hq : alook X k = some q) (kp : Kept S w w') (hS : ∀ i ∈ S, i ∈ edm q ∨ w.heap.size ≤ i) (hc : EntAt w' q') (hp : q'.p = q.p) (hid : q'.id = q.id) (hd : ∀ i ∈ edm q', i ∈ edm q) {f : Sess → Sess} (hf : q'.x = f q.x) (hi : Inv idle abs (f q.x)) :
    LeftS w w' sb mb idle abs X (updU (absW X) k f) := by
  have hm := alook_some hq
  have hin : ∀ i ∈ edm q, i ∈ pdom edm mb X := fun i hi => pdom_mem.2 (.inr ⟨_, hm, hi⟩)
  have hU : absW (aput X k q') = updU (absW X) k f := by rw [absW_put, updU_at hq, hf]
  refine ⟨aput X k q', ⟨kp.at h.blk (fun hs => ?_), h.map.upd entLaw hq kp hS hc hp (fun i hi => .inl (hd i hi)), fun hi => ?_, ?_, ?_, fun p hp' => ?_, h.ri, h.ra⟩, hU, kp.mono (fun i hi => ?_), fun i hi => ?_⟩
  · rcases hS sb hs with e | e
    · exact h.out (hin _ e)
    · have := lt_of_heap h.blk; omega
  · rcases pdom_put hi with e | e
    · exact h.out e
    · exact h.out (hin _ (hd sb e))
  · rw [aput_len, hq]; exact h.len
  · rw [hU]
    refine h.good.upd _ _ (fun x hx => ?_)
    rw [absW_look, hq] at hx
    injection hx with hx
    rw [← hx]
    exact hi
  · rcases aput_mem hp' with rfl | ⟨hp', _⟩
    · show q'.id = k
      rw [hid]; exact h.key _ hm
    · exact h.key p hp'
  · rcases hS i hi with e | e
    · exact .inl (by unfold sdom; exact List.mem_cons_of_mem _ (hin i e))
    · exact .inr e
  · unfold sdom at hi ⊢
    rcases List.mem_cons.1 hi with e | hi
    · rw [e]; exact List.mem_cons_self ..
    · rcases pdom_put hi with e | e
      · exact List.mem_cons_of_mem _ e
      · exact List.mem_cons_of_mem _ (hin i (hd i e))
/-- The ending of End. -/
def EndGives (w w' : World) (e : Ending) (l : List Str) (c : Int) : Prop := ∃ a cap, e = .returned (.tuple #[.slice a l.length cap, .int .i64 c]) ∧ StrsAt w' a l ∧ ∀ i ∈ fp a, w.heap.size ≤ i
set_option maxHeartbeats 4000000 in
set_option maxRecDepth 100000 in
theorem end_any {w : World} {sb mb : Nat} {idle abs : Int} {X : EXs} (h : SesAt w sb mb idle abs X) (s : ByteArray) (hs : s.size ≤ maxLen) :
    Calls Try.prog 27 #[.pointer (some ⟨sb, 0, none⟩), .string s] w fun e w' => EndGives w w' e (endL (absW X) s.data.toList) (endC (absW X) s.data.toList) ∧ LeftS w w' sb mb idle abs X (endU (absW X) s.data.toList) := by
  have c2 := h.c2
  have hl := h.look s hs
  have HH := hid h
  cases hq : alook X s.data.toList with
  | none =>
    have E := hid (show endC (absW X) s.data.toList = 6 by unfold endC; rw [absW_look, hq]; rfl)
    have E2 := hid (show endL (absW X) s.data.toList = [] by unfold endL; rw [E.out]; rfl)
    have E3 := hid (show endU (absW X) s.data.toList = absW X by unfold endU; rw [E.out]; rfl)
    rw [hq, pval_none] at hl
    rw [E.out, E2.out, E3.out]
    clear h hq
    go_enter Try.func27, Try.ntmps27
    go_wp2_with (go_at_call 31; refine (made_any c2).mono ?_; rintro e w' ⟨rfl, rfl⟩)
    go_ret2
    exact ⟨⟨none, 0, rfl, list_nil _ none, by simp [fp]⟩, LeftS.same HH.out (Kept.refl _ _)⟩
  | some q =>
    rw [hq, pval_some] at hl
    have hp := h.map.of_look hq
    have c9 := hp.ec.c9
    have hin := h.good.look (id := s.data.toList) (x := q.x) (by rw [absW_look, hq]; rfl)
    have hfew := hin.few
    cases hen : q.x.ended
    · have E := hid (show endC (absW X) s.data.toList = 0 by unfold endC; rw [absW_look, hq]; show (if q.x.ended = true then (6 : Int) else 0) = 0; rw [hen]; rfl)
      have E2 := hid (show endL (absW X) s.data.toList = q.x.clients by unfold endL clientsOf; rw [E.out, absW_look, hq]; rfl)
      have E3 := hid (show endU (absW X) s.data.toList = updU (absW X) s.data.toList endX by unfold endU; rw [E.out]; rfl)
      rw [E.out, E2.out, E3.out]
      rw [hen] at c9
      have f9 := hp.free 9
      have HS := hid (hp.set { q with x := endX q.x } 9 (.bool true) rfl rfl rfl rfl rfl rfl rfl rfl)
      have HQ := hid hq
      have HI := hid hin.end_
      have HK := hid (kept_one q.p w 9 (.bool true))
      have d8 := HS.out.ec.c8
      have HCL := hid (cloneS_any (cap := q.cc) HS.out.cli (by simp [endX]; omega))
      change (w.setCell ⟨q.p, 9, none⟩ (.bool true)).cell? ⟨q.p, 8, none⟩ = some (.slice q.ca q.x.clients.length q.cc) at d8
      change Hid (Calls Try.prog 38 #[.slice q.ca q.x.clients.length q.cc] (w.setCell ⟨q.p, 9, none⟩ (.bool true)) fun e w' => ∃ a' cap', e = .returned (.slice a' q.x.clients.length cap') ∧ OwnL 9 1 encS (w.setCell ⟨q.p, 9, none⟩ (.bool true)) w' a' cap' q.x.clients) at HCL
      clear h hq hp hin
      go_enter Try.func27, Try.ntmps27
      go_wp2_with (go_at_call 31; refine (made_any c2).mono ?_; rintro e w' ⟨rfl, rfl⟩)
      refine HCL.out.mono ?_
      rintro e w2 ⟨a2, k2, rfl, o2⟩
      have HO := hid o2
      clear o2
      go_wp2_with fail
      go_ret2
      have hsz := HK.out.size
      exact ⟨⟨a2, k2, rfl, HO.out.seq encSOk, fun i hi => Nat.le_trans hsz (HO.out.new i hi)⟩, HH.out.updS HQ.out (S := [q.p]) (HK.out.step HO.out.kept (by simp)) (fun i hi => .inl (by simp at hi; subst hi; simp [edm])) (q' := { q with x := endX q.x }) (HS.out.keptN HO.out.kept) rfl rfl (fun i hi => hi) rfl HI.out⟩
    · have E := hid (show endC (absW X) s.data.toList = 6 by unfold endC; rw [absW_look, hq]; show (if q.x.ended = true then (6 : Int) else 0) = 6; rw [hen]; rfl)
      have E2 := hid (show endL (absW X) s.data.toList = [] by unfold endL; rw [E.out]; rfl)
      have E3 := hid (show endU (absW X) s.data.toList = absW X by unfold endU; rw [E.out]; rfl)
      rw [E.out, E2.out, E3.out]
      rw [hen] at c9
      clear h hq hp hin
      go_enter Try.func27, Try.ntmps27
      go_wp2_with (go_at_call 31; refine (made_any c2).mono ?_; rintro e w' ⟨rfl, rfl⟩)
      go_ret2
      exact ⟨⟨none, 0, rfl, list_nil _ none, by simp [fp]⟩, LeftS.same HH.out (Kept.refl _ _)⟩
end Go.Proofs.Ytakccoiecmibcaa
