/- State, open, Take, Reject of the reference. -/
import Derived.Test.YtionejokdfgmhaaRef
namespace Go.Proofs.Ytionejokdfgmhaa
open Go.RowKit Go.Maps

theorem rowV_set_cell (Y : List Ent) (i : Nat) (hi : i < Y.length) (e' : Ent) (c : Nat) (hc : c < 11) (v : Value) (he : encR e' = (encR Y[i]).set c v) : (rowV encR Y).set (i * 11 + c) v = rowV encR (Y.set i e') := by
  induction Y generalizing i with
  | nil => simp at hi
  | cons y r ih =>
    have hl : (encR y).length = 11 := rfl
    cases i with
    | zero =>
      show (encR y ++ rowV encR r).set (0 * 11 + c) v = encR e' ++ rowV encR r
      simp only [List.getElem_cons_zero] at he
      rw [he, Nat.zero_mul, Nat.zero_add, List.set_append_left _ _ (by omega)]
    | succ i =>
      show (encR y ++ rowV encR r).set ((i + 1) * 11 + c) v = encR y ++ rowV encR (r.set i e')
      rw [List.set_append_right _ _ (by omega), hl, show (i + 1) * 11 + c - 11 = i * 11 + c by omega]
      congr 1
      exact ih i (by simpa using hi) (by simpa using he)
def RLeft (w w' : World) (qb : Nat) (a : Option Addr) (Y : List Ent) (U' : Wfs) : Prop := ∃ a' cap' Y', RefAt w' qb a' cap' Y' ∧ absR Y' = U' ∧ Kept (qb :: fp a) w w' ∧ ∀ i ∈ rdom qb a' Y', i ∈ rdom qb a Y ∨ w.heap.size ≤ i
theorem RLeft.same {w w' : World} {qb : Nat} {a : Option Addr} {cap : Nat} {Y : List Ent} (h : RefAt w qb a cap Y) (k : Kept [] w w') : RLeft w w' qb a Y (absR Y) :=
  ⟨a, cap, Y, h.keptN k, rfl, k.mono (by simp), fun _ hi => .inl hi⟩
theorem absR_set {Y : List Ent} {i : Nat} (hi : i < Y.length) (hu : AUniq (absR Y)) {e' : Ent} (hk : e'.1 = Y[i].1) : absR (Y.set i e') = aput (absR Y) Y[i].1 e'.2.x := by
  have hs : (alook (absR Y) Y[i].1).isSome = true := by
    rw [alook_of_mem hu (show (Y[i].1, Y[i].2.x) ∈ absR Y from List.mem_map.2 ⟨Y[i], List.getElem_mem hi, rfl⟩)]; rfl
  unfold aput
  rw [if_pos hs]
  unfold absR at hu ⊢
  rw [List.map_set, List.map_map]
  refine List.ext_getElem (by simp) (fun j h1 h2 => ?_)
  rw [List.getElem_set]
  simp only [List.getElem_map, Function.comp]
  by_cases e : i = j
  · subst e
    rw [if_pos rfl, if_pos rfl, hk]
  · rw [if_neg e, if_neg]
    intro he
    have hp := List.pairwise_iff_getElem.1 hu
    have hjl : j < Y.length := by simpa using h2
    rcases Nat.lt_or_ge i j with h | h
    · have := hp i j (by simpa using hi) (by simpa using hjl) h
      simp at this
      exact this he.symm
    · have := hp j i (by simpa using hjl) (by simpa using hi) (by omega)
      simp at this
      exact this he
theorem RefAt.g_ne {w : World} {qb : Nat} {a : Option Addr} {cap : Nat} {Y : List Ent} (h : RefAt w qb a cap Y) : qb ∉ fp a := by
  intro hi
  obtain ⟨cur, hc⟩ := row_blk h.row _ hi
  rw [h.blk] at hc
  injection hc with hc
  injection hc with _ hc _
  exact absurd hc (by decide)
/-- An entry has been written in its place. -/
theorem RefAt.upd {w w1 w' : World} {qb : Nat} {a : Option Addr} {cap : Nat} {Y : List Ent} (h : RefAt w qb a cap Y) {i : Nat} (hi : i < Y.length) {e' : Ent} (k1 : Kept [] w w1) (kp : Kept (fp a) w1 w') (hrow : w'.ownsRow 0 75 11 (.slice a Y.length cap) Y.length (rowV encR (Y.set i e'))) (hk : e'.1 = Y[i].1) (hl : EntL w1 e') (hn : ∀ j, j ∈ fp e'.2.sa ∨ j ∈ fp e'.2.aa → (j ∈ fp Y[i].2.sa ∨ j ∈ fp Y[i].2.aa) ∨ w.heap.size ≤ j) (hinv : Inv e'.2.x) {f : Proc → Proc} (hf : e'.2.x = f Y[i].2.x) :
    RLeft w w' qb a Y (updU (absR Y) Y[i].1 f) := by
  have h1 := h.keptN k1
  have hlook : alook (absR Y) Y[i].1 = some Y[i].2.x := alook_of_mem h.uniq (show (Y[i].1, Y[i].2.x) ∈ absR Y from List.mem_map.2 ⟨Y[i], List.getElem_mem hi, rfl⟩)
  have habs := absR_set hi h.uniq hk
  have hgt : ∀ e, EntL w1 e → ∀ j, j ∈ fp e.2.sa ∨ j ∈ fp e.2.aa → j ∉ fp a := fun e he j hj hm => by
    obtain ⟨cur, t, hc, ht, _⟩ := he.blk j hj
    obtain ⟨cur2, hc2⟩ := row_blk h1.row j hm
    rw [hc] at hc2
    injection hc2 with hc2
    injection hc2 with _ hc2 _
    exact ht hc2
  have hmem : ∀ e ∈ Y.set i e', e = e' ∨ e ∈ Y := fun e he => (List.mem_or_eq_of_mem_set he).symm
  refine ⟨a, cap, Y.set i e', ⟨?_, by rw [List.length_set]; exact hrow, fun e he => ?_, by rw [List.length_set]; exact h.few, fun e he => ?_, ?_⟩, ?_, (k1.mono (T := qb :: fp a) (by simp)).step kp (fun j hj => List.mem_cons_of_mem _ hj), fun j hj => ?_⟩
  · rw [List.length_set]; exact kp.at h1.blk h1.g_ne
  · have hE : EntL w1 e := by
      rcases hmem e he with rfl | he
      · exact hl
      · exact h1.each e he
    exact ⟨hE.1.kept kp (fun j hj => hgt e hE j (.inl hj)), hE.2.kept kp (fun j hj => hgt e hE j (.inr hj))⟩
  · rcases hmem e he with rfl | he
    · exact hinv
    · exact h.inv e he
  · rw [habs]; exact aput_uniq h.uniq _ _
  · rw [habs]; unfold updU; rw [hlook, hf]
  · rcases rdom_mem.1 hj with e | e | ⟨e, he, hd⟩
    · exact .inl (rdom_mem.2 (.inl e))
    · exact .inl (rdom_mem.2 (.inr (.inl e)))
    · rcases hmem e he with rfl | he
      · rcases hn j hd with e | e
        · exact .inl (rdom_mem.2 (.inr (.inr ⟨_, List.getElem_mem hi, e⟩)))
        · exact .inr e
      · exact .inl (rdom_mem.2 (.inr (.inr ⟨e, he, hd⟩)))

/-- What a region that loads an entry must find kept. -/
theorem RefAt.cells {w : World} {qb : Nat} {g cap : Nat} {Y : List Ent} (h : RefAt w qb (some ⟨g, 0, none⟩) cap Y) {i : Nat} {y : Ent} (hc : RC w g (i * 11) y) (wq : World) (k : Kept [] w wq) : wq.cell? ⟨qb, 0, none⟩ = some (.slice (some ⟨g, 0, none⟩) Y.length cap) ∧ wq.cell? ⟨g, i * 11, none⟩ = some (.string ⟨y.1.toArray⟩) ∧ wq.cell? ⟨g, i * 11 + 1, none⟩ = some (.string ⟨y.2.x.kind.toArray⟩) ∧ wq.cell? ⟨g, i * 11 + 2, none⟩ = some (.string ⟨y.2.x.user.toArray⟩) ∧ wq.cell? ⟨g, i * 11 + 3, none⟩ = some (.string ⟨y.2.x.by_.toArray⟩) ∧ wq.cell? ⟨g, i * 11 + 4, none⟩ = some (.slice y.2.sa y.2.x.steps.length y.2.sc) ∧ wq.cell? ⟨g, i * 11 + 5, none⟩ = some (.int .i64 y.2.x.until_) ∧ wq.cell? ⟨g, i * 11 + 6, none⟩ = some (.int .i64 y.2.x.step) ∧ wq.cell? ⟨g, i * 11 + 7, none⟩ = some (.int .i64 y.2.x.count) ∧ wq.cell? ⟨g, i * 11 + 8, none⟩ = some (.slice y.2.aa y.2.x.appr.length y.2.ac) ∧ wq.cell? ⟨g, i * 11 + 9, none⟩ = some (.bool y.2.x.rej) ∧ wq.cell? ⟨g, i * 11 + 10, none⟩ = some (.bool y.2.x.tak) := by
  have hqb := lt_of_heap h.blk
  have hg : g < w.heap.size := World.block_lt_of_cell? w _ hc.c0
  exact ⟨(k.cell hqb (by simp)).trans h.c0, (k.cell hg (by simp)).trans hc.c0, (k.cell hg (by simp)).trans hc.c1, (k.cell hg (by simp)).trans hc.c2, (k.cell hg (by simp)).trans hc.c3, (k.cell hg (by simp)).trans hc.c4, (k.cell hg (by simp)).trans hc.c5, (k.cell hg (by simp)).trans hc.c6, (k.cell hg (by simp)).trans hc.c7, (k.cell hg (by simp)).trans hc.c8, (k.cell hg (by simp)).trans hc.c9, (k.cell hg (by simp)).trans hc.c10⟩

/-! ### State -/
set_option maxHeartbeats 4000000 in
set_option maxRecDepth 100000 in
theorem rstate_any {w : World} {qb : Nat} {a : Option Addr} {cap : Nat} {Y : List Ent} (h : RefAt w qb a cap Y) (s : ByteArray) (now : Int) :
    Calls Try.prog 17 #[.pointer (some ⟨qb, 0, none⟩), .string s, .int .i64 now] w fun e w' => e = .returned (.tuple #[.string ⟨(stR (absR Y) s.data.toList now).1.toArray⟩, .int .i64 ((stR (absR Y) s.data.toList now).2 : Nat)]) ∧ Kept [] w w' := by
  have HF := hid (find_any h s)
  have c0 := h.c0
  have hfew := h.few
  rcases look_idx (Y := Y) (k := s.data.toList) with ⟨e, hn⟩ | ⟨i, hi, e, hk, hl⟩
  · rw [e] at HF
    have E := hid (show stR (absR Y) s.data.toList now = ([], 0) by unfold stR; rw [hn])
    rw [E.out]
    clear e hn
    go_enter Try.func17, Try.ntmps17
    go_wp2_with fail
    refine HF.out.mono ?_
    rintro e w' ⟨rfl, rfl⟩
    go_wp2_with fail
    go_ret2
    exact ⟨rfl, Kept.refl _ _⟩
  · rw [e] at HF
    have E := hid (show stR (absR Y) s.data.toList now = (stS Y[i].2.x (lim now), Y[i].2.x.step) by unfold stR; rw [hl])
    rw [E.out]
    obtain ⟨g, cur, rfl, hg, hcs, hnc, hc⟩ := h.get hi
    have hi1 : (0 : Int) ≤ i := by omega
    have hi2 : (i : Int) < Y.length := by omega
    have HCL := hid (h.cells hc)
    clear e hk hl hg
    generalize Y[i] = y at *
    have HW := hid (rword_st w.drew y now)
    obtain ⟨d0, d1, d2, d3, d4, d5, d6, d7, d8, d9, d10⟩ := hc
    go_enter Try.func17, Try.ntmps17
    go_wp2_with fail
    refine HF.out.mono ?_
    rintro e w' ⟨rfl, rfl⟩
    go_wp2_with fail
    go_region_held3 (fun w' => w'.cell? ⟨qb, 0, none⟩ = some (.slice (some ⟨g, 0, none⟩) Y.length cap) ∧ w'.cell? ⟨g, i * 11, none⟩ = some (.string ⟨y.1.toArray⟩) ∧ w'.cell? ⟨g, i * 11 + 1, none⟩ = some (.string ⟨y.2.x.kind.toArray⟩) ∧ w'.cell? ⟨g, i * 11 + 2, none⟩ = some (.string ⟨y.2.x.user.toArray⟩) ∧ w'.cell? ⟨g, i * 11 + 3, none⟩ = some (.string ⟨y.2.x.by_.toArray⟩) ∧ w'.cell? ⟨g, i * 11 + 4, none⟩ = some (.slice y.2.sa y.2.x.steps.length y.2.sc) ∧ w'.cell? ⟨g, i * 11 + 5, none⟩ = some (.int .i64 y.2.x.until_) ∧ w'.cell? ⟨g, i * 11 + 6, none⟩ = some (.int .i64 y.2.x.step) ∧ w'.cell? ⟨g, i * 11 + 7, none⟩ = some (.int .i64 y.2.x.count) ∧ w'.cell? ⟨g, i * 11 + 8, none⟩ = some (.slice y.2.aa y.2.x.appr.length y.2.ac) ∧ w'.cell? ⟨g, i * 11 + 9, none⟩ = some (.bool y.2.x.rej) ∧ w'.cell? ⟨g, i * 11 + 10, none⟩ = some (.bool y.2.x.tak))
      (first
        | exact HCL.out _ ((Kept.refl [] w).drew.step k2 (by simp))
        | exact HCL.out _ (Kept.refl [] w).drew)
      ((go_at_call 39; refine HW.out.mono ?_; rintro e w2 ⟨rfl, k2⟩))
    go_wp2_with fail
    go_ret2
    exact ⟨rfl, (Kept.refl [] w).drew.step k2 (by simp)⟩

/-! ### open -/
def ropenI (Y : List Ent) (k : Str) (now : Int) : Int := if pendC (absR Y) k now = 0 then idx (eqK k) Y else 0
set_option maxHeartbeats 4000000 in
set_option maxRecDepth 100000 in
theorem ropen_any {w : World} {qb : Nat} {a : Option Addr} {cap : Nat} {Y : List Ent} (h : RefAt w qb a cap Y) (s : ByteArray) (now : Int) :
    Calls Try.prog 51 #[.pointer (some ⟨qb, 0, none⟩), .string s, .int .i64 now] w fun e w' => e = .returned (.tuple #[.int .i64 (ropenI Y s.data.toList now), .int .i64 (pendC (absR Y) s.data.toList now)]) ∧ Kept [] w w' := by
  have HF := hid (find_any h s)
  have c0 := h.c0
  have hfew := h.few
  rcases look_idx (Y := Y) (k := s.data.toList) with ⟨e, hn⟩ | ⟨i, hi, e, hk, hl⟩
  · rw [e] at HF
    have E := hid (show pendC (absR Y) s.data.toList now = 6 by unfold pendC; rw [hn])
    have E2 := hid (show ropenI Y s.data.toList now = 0 by unfold ropenI; rw [E.out]; rfl)
    rw [E.out, E2.out]
    clear e hn
    go_enter Try.func51, Try.ntmps51
    go_wp2_with fail
    refine HF.out.mono ?_
    rintro e w' ⟨rfl, rfl⟩
    go_wp2_with fail
    go_ret2
    exact ⟨rfl, Kept.refl _ _⟩
  · rw [e] at HF
    have E := hid (show pendC (absR Y) s.data.toList now = if stS Y[i].2.x (lim now) = sExpired then 13 else if stS Y[i].2.x (lim now) = sPending then 0 else 12 by unfold pendC; rw [hl])
    have E2 := hid (show ropenI Y s.data.toList now = if pendC (absR Y) s.data.toList now = 0 then (i : Int) else 0 by unfold ropenI; rw [e])
    rw [E2.out, E.out]
    clear E2 E
    obtain ⟨g, cur, rfl, hg, hcs, hnc, hc⟩ := h.get hi
    have hi1 : (0 : Int) ≤ i := by omega
    have hi2 : (i : Int) < Y.length := by omega
    clear e hk hl hg
    generalize Y[i] = y at *
    have HW := hid (rword_st w y now)
    obtain ⟨d0, d1, d2, d3, d4, d5, d6, d7, d8, d9, d10⟩ := hc
    generalize stS y.2.x (lim now) = R at *
    by_cases h1 : R = sExpired
    · have e1 : (R == sExpired) = true := by rw [h1]; exact beq_self_eq_true _
      rw [if_pos h1]
      unfold sExpired at e1
      clear h1
      go_enter Try.func51, Try.ntmps51
      go_wp2_with fail
      refine HF.out.mono ?_
      rintro e w' ⟨rfl, rfl⟩
      go_wp2_with fail
      refine HW.out.mono ?_
      rintro e w2 ⟨rfl, k2⟩
      go_wp2_with fail
      go_ret2
      exact ⟨rfl, k2⟩
    · have e1 := sV_ne h1
      by_cases h2 : R = sPending
      · have e2 : (R == sPending) = true := by rw [h2]; exact beq_self_eq_true _
        rw [if_neg h1, if_pos h2]
        unfold sExpired at e1
        unfold sPending at e2
        clear h1 h2
        go_enter Try.func51, Try.ntmps51
        go_wp2_with fail
        refine HF.out.mono ?_
        rintro e w' ⟨rfl, rfl⟩
        go_wp2_with fail
        refine HW.out.mono ?_
        rintro e w2 ⟨rfl, k2⟩
        go_wp2_with fail
        go_ret2
        exact ⟨rfl, k2⟩
      · have e2 := sV_ne h2
        rw [if_neg h1, if_neg h2]
        unfold sExpired at e1
        unfold sPending at e2
        clear h1 h2
        go_enter Try.func51, Try.ntmps51
        go_wp2_with fail
        refine HF.out.mono ?_
        rintro e w' ⟨rfl, rfl⟩
        go_wp2_with fail
        refine HW.out.mono ?_
        rintro e w2 ⟨rfl, k2⟩
        go_wp2_with fail
        go_ret2
        exact ⟨rfl, k2⟩
end Go.Proofs.Ytionejokdfgmhaa
