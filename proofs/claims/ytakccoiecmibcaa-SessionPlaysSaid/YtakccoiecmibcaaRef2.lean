/- Get, End, Present, Len of the reference. Printed by gen_sref2.py. -/
import Derived.Test.YtakccoiecmibcaaRef
namespace Go.Proofs.Ytakccoiecmibcaa
open Go.RowKit Go.Maps

theorem set_past (y : EP) (R : List Value) (i k : Nat) (v : Value) : (encK y ++ R).set ((i + 1) * 10 + k) v = encK y ++ R.set (i * 10 + k) v := by
  have hl : (encK y).length = 10 := rfl
  rw [List.set_append_right _ _ (by omega), hl, show (i + 1) * 10 + k - 10 = i * 10 + k by omega]
theorem rowV_set_cell (Y : List EP) (i : Nat) (hi : i < Y.length) (e' : EP) (c : Nat) (hc : c < 10) (v : Value) (he : encK e' = (encK Y[i]).set c v) : (rowV encK Y).set (i * 10 + c) v = rowV encK (Y.set i e') := by
  induction Y generalizing i with
  | nil => simp at hi
  | cons y r ih =>
    have hl : (encK y).length = 10 := rfl
    cases i with
    | zero =>
      show (encK y ++ rowV encK r).set (0 * 10 + c) v = encK e' ++ rowV encK r
      simp only [List.getElem_cons_zero] at he
      rw [he, Nat.zero_mul, Nat.zero_add, List.set_append_left _ _ (by omega)]
    | succ i =>
      show (encK y ++ rowV encK r).set ((i + 1) * 10 + c) v = encK y ++ rowV encK (r.set i e')
      rw [set_past]
      congr 1
      exact ih i (by simpa using hi) (by simpa using he)
theorem rowV_set9 (Y : List EP) (i : Nat) (hi : i < Y.length) (v0 v1 v2 v3 v4 v5 v6 v7 v8 : Value) (e' : EP) (he : encK e' = [v0, v1, v2, v3, v4, v5, v6, v7, v8, .bool Y[i].x.ended]) : ((((((((((rowV encK Y).set (i * 10 + 0) v0).set (i * 10 + 1) v1).set (i * 10 + 2) v2).set (i * 10 + 3) v3).set (i * 10 + 4) v4).set (i * 10 + 5) v5).set (i * 10 + 6) v6).set (i * 10 + 7) v7).set (i * 10 + 8) v8) = rowV encK (Y.set i e') := by
  induction Y generalizing i with
  | nil => simp at hi
  | cons y r ih =>
    cases i with
    | zero =>
      show _ = encK e' ++ rowV encK r
      simp only [List.getElem_cons_zero] at he
      rw [he]
      rfl
    | succ i =>
      show ((((((((((encK y ++ rowV encK r).set ((i + 1) * 10 + 0) v0).set ((i + 1) * 10 + 1) v1).set ((i + 1) * 10 + 2) v2).set ((i + 1) * 10 + 3) v3).set ((i + 1) * 10 + 4) v4).set ((i + 1) * 10 + 5) v5).set ((i + 1) * 10 + 6) v6).set ((i + 1) * 10 + 7) v7).set ((i + 1) * 10 + 8) v8) = encK y ++ rowV encK (r.set i e')
      simp only [set_past]
      exact congrArg (encK y ++ ·) (ih i (by simpa using hi) (by simpa using he))
def RLeft (w w' : World) (qb : Nat) (idle abs : Int) (a : Option Addr) (Y : List EP) (U' : Sss) : Prop := ∃ a' cap' Y', RefAt w' qb idle abs a' cap' Y' ∧ absK Y' = U' ∧ Kept (qb :: fp a) w w' ∧ ∀ i ∈ rdom qb a' Y', i ∈ rdom qb a Y ∨ w.heap.size ≤ i
theorem RLeft.keptN {w w' w2 : World} {qb : Nat} {idle abs : Int} {a : Option Addr} {Y : List EP} {U' : Sss} (h : RLeft w w' qb idle abs a Y U') (k : Kept [] w' w2) : RLeft w w2 qb idle abs a Y U' := by
  obtain ⟨a', cap', Y', h1, e, k1, hd⟩ := h
  exact ⟨a', cap', Y', h1.keptN k, e, k1.step k (by simp), hd⟩
theorem RLeft.from {w w2 w3 : World} {qb : Nat} {idle abs : Int} {a : Option Addr} {Y : List EP} {U' : Sss} (k2 : Kept [] w w2) (hL : RLeft w2 w3 qb idle abs a Y U') : RLeft w w3 qb idle abs a Y U' := by
  obtain ⟨a', c', Y', h', e, k3, hd⟩ := hL
  have := k2.size
  exact ⟨a', c', Y', h', e, (k2.mono (T := qb :: fp a) (by simp)).step k3 (fun i hi => hi), fun i hi => (hd i hi).imp id (fun e => by omega)⟩
theorem RLeft.kept {w w' : World} {qb : Nat} {idle abs : Int} {a : Option Addr} {Y : List EP} {U' : Sss} (h : RLeft w w' qb idle abs a Y U') : Kept (rdom qb a Y) w w' := by
  obtain ⟨_, _, _, _, _, k, _⟩ := h
  exact k.mono (fun i hi => .inl (rdom_mem.2 ((List.mem_cons.1 hi).elim .inl (fun e => .inr (.inl e)))))
section
variable {w w1 w' : World} {qb : Nat} {idle abs : Int} {a : Option Addr} {cap : Nat} {Y : List EP}
theorem RLeft.same (h : RefAt w qb idle abs a cap Y) (k : Kept [] w w') : RLeft w w' qb idle abs a Y (absK Y) :=
  ⟨a, cap, Y, h.keptN k, rfl, k.mono (by simp), fun _ hi => .inl hi⟩
theorem absK_set {i : Nat} (hi : i < Y.length) (hu : AUniq (absK Y)) {e' : EP} (hk : e'.id = Y[i].id) : absK (Y.set i e') = aput (absK Y) Y[i].id e'.x := by
  have hs : (alook (absK Y) Y[i].id).isSome = true := by
    rw [alook_of_mem hu (show (Y[i].id, Y[i].x) ∈ absK Y from List.mem_map.2 ⟨Y[i], List.getElem_mem hi, rfl⟩)]; rfl
  unfold aput
  rw [if_pos hs]
  unfold absK at hu ⊢
  rw [List.map_set, List.map_map]
  refine List.ext_getElem (by simp) (fun j h1 h2 => ?_)
  rw [List.getElem_set]
  simp only [List.getElem_map, Function.comp]
  by_cases e : i = j
  · subst e
    rw [if_pos rfl, if_pos rfl, hk]
  · rw [if_neg e, if_neg]
    intro he
    have hp := List.pairwise_iff_getElem.1 hu
    have hjl : j < Y.length := by simpa using h2
    rcases Nat.lt_or_ge i j with h | h
    · have := hp i j (by simpa using hi) (by simpa using hjl) h
      simp at this
      exact this he.symm
    · have := hp j i (by simpa using hjl) (by simpa using hi) (by omega)
      simp at this
      exact this he
/-- An entry has been written in its place. -/
theorem RefAt.upd (h : RefAt w qb idle abs a cap Y) {i : Nat} (hi : i < Y.length) {e' : EP} (k1 : Kept [] w w1) (kp : Kept (fp a) w1 w') (hrow : w'.ownsRow 0 87 10 (.slice a Y.length cap) Y.length (rowV encK (Y.set i e'))) (hk : e'.id = Y[i].id) (hl : KL w1 e') (hn : ∀ j, j ∈ fp e'.pa ∨ j ∈ fp e'.ca → (j ∈ fp Y[i].pa ∨ j ∈ fp Y[i].ca) ∨ w.heap.size ≤ j) {f : Sess → Sess} (hf : e'.x = f Y[i].x) (hinv : Inv idle abs (f Y[i].x)) :
    RLeft w w' qb idle abs a Y (updU (absK Y) Y[i].id f) := by
  have h1 := h.keptN k1
  have hlook : alook (absK Y) Y[i].id = some Y[i].x := alook_of_mem h.good.uniq (show (Y[i].id, Y[i].x) ∈ absK Y from List.mem_map.2 ⟨Y[i], List.getElem_mem hi, rfl⟩)
  have habs := absK_set hi h.good.uniq hk
  have hU : absK (Y.set i e') = updU (absK Y) Y[i].id f := by rw [habs]; unfold updU; rw [hlook, hf]
  have hgt : ∀ e, KL w1 e → ∀ j, j ∈ fp e.pa ∨ j ∈ fp e.ca → j ∉ fp a := fun e he j hj hm => by
    obtain ⟨cur, t, hc, ht, _⟩ := he.blk j hj
    obtain ⟨cur2, hc2⟩ := row_blk h1.row j hm
    rw [hc] at hc2
    injection hc2 with hc2
    injection hc2 with _ hc2 _
    exact ht hc2
  have hmem : ∀ e ∈ Y.set i e', e = e' ∨ e ∈ Y := fun e he => (List.mem_or_eq_of_mem_set he).symm
  refine ⟨a, cap, Y.set i e', ⟨?_, by rw [List.length_set]; exact hrow, fun e he => ?_, by rw [List.length_set]; exact h.few, ?_⟩, hU, (k1.mono (T := qb :: fp a) (by simp)).step kp (fun j hj => List.mem_cons_of_mem _ hj), fun j hj => ?_⟩
  · rw [List.length_set]; exact kp.at h1.blk h1.g_ne
  · have hE : KL w1 e := by
      rcases hmem e he with rfl | he
      · exact hl
      · exact h1.each e he
    exact ⟨hE.1.kept kp (fun j hj => hgt e hE j (.inl hj)), hE.2.kept kp (fun j hj => hgt e hE j (.inr hj))⟩
  · rw [hU]
    refine h.good.upd _ _ (fun x hx => ?_)
    rw [hlook] at hx
    injection hx with hx
    rw [← hx]
    exact hinv
  · rcases rdom_mem.1 hj with e | e | ⟨e, he, hd⟩
    · exact .inl (rdom_mem.2 (.inl e))
    · exact .inl (rdom_mem.2 (.inr (.inl e)))
    · rcases hmem e he with rfl | he
      · rcases hn j hd with e | e
        · exact .inl (rdom_mem.2 (.inr (.inr ⟨_, List.getElem_mem hi, e⟩)))
        · exact .inr e
      · exact .inl (rdom_mem.2 (.inr (.inr ⟨e, he, hd⟩)))
end
/-- One cell of an entry is written. -/
theorem RefAt.set1 {w w1 : World} {qb g : Nat} {idle abs : Int} {cap : Nat} {Y : List EP} (h : RefAt w qb idle abs (some ⟨g, 0, none⟩) cap Y) {i : Nat} (hi : i < Y.length) (k1 : Kept [] w w1) (c : Nat) (hc : c < 10) (v : Value) (e' : EP) (he : encK e' = (encK Y[i]).set c v) (hk : e'.id = Y[i].id) (hl : KL w1 e') (hn : ∀ j, j ∈ fp e'.pa ∨ j ∈ fp e'.ca → (j ∈ fp Y[i].pa ∨ j ∈ fp Y[i].ca) ∨ w.heap.size ≤ j) {f : Sess → Sess} (hf : e'.x = f Y[i].x) (hinv : Inv idle abs (f Y[i].x)) :
    RLeft w (w1.setCell ⟨g, i * 10 + c, none⟩ v) qb idle abs (some ⟨g, 0, none⟩) Y (updU (absK Y) Y[i].id f) := by
  have h1 := h.keptN k1
  have hr := (h1.row.stored (i * 10 + c) v).1
  rw [rowV_set_cell Y i hi _ c hc v he] at hr
  exact h.upd hi (e' := e') k1 (((Kept.refl (fp (some (⟨g, 0, none⟩ : Addr))) w1)).setCell (.inl (by simp [fp])) v) hr hk hl hn hf hinv
/-- The nine cells of a session in an entry have been written. -/
theorem RefAt.set9 {w w6 : World} {qb g : Nat} {idle abs : Int} {cap : Nat} {Y : List EP} (h : RefAt w qb idle abs (some ⟨g, 0, none⟩) cap Y) {i : Nat} (hi : i < Y.length) (k6 : Kept [] w w6) (v0 v1 v2 v3 v4 v5 v6 v7 v8 : Value) (e' : EP) (he : encK e' = [v0, v1, v2, v3, v4, v5, v6, v7, v8, .bool Y[i].x.ended]) (hk : e'.id = Y[i].id) (hl : KL w6 e') (hn : ∀ j, j ∈ fp e'.pa ∨ j ∈ fp e'.ca → (j ∈ fp Y[i].pa ∨ j ∈ fp Y[i].ca) ∨ w.heap.size ≤ j) {f : Sess → Sess} (hf : e'.x = f Y[i].x) (hinv : Inv idle abs (f Y[i].x)) :
    RLeft w (((((((((w6.setCell ⟨g, i * 10, none⟩ v0).setCell ⟨g, i * 10 + 1, none⟩ v1).setCell ⟨g, i * 10 + 2, none⟩ v2).setCell ⟨g, i * 10 + 3, none⟩ v3).setCell ⟨g, i * 10 + 4, none⟩ v4).setCell ⟨g, i * 10 + 5, none⟩ v5).setCell ⟨g, i * 10 + 6, none⟩ v6).setCell ⟨g, i * 10 + 7, none⟩ v7).setCell ⟨g, i * 10 + 8, none⟩ v8).drew qb idle abs (some ⟨g, 0, none⟩) Y (updU (absK Y) Y[i].id f) := by
  have h6 := h.keptN k6
  refine RLeft.keptN (h.upd hi (e' := e') k6 ((((((((((Kept.refl (fp (some (⟨g, 0, none⟩ : Addr))) w6).setCell (.inl (by simp [fp])) _).setCell (.inl (by simp [fp])) _).setCell (.inl (by simp [fp])) _).setCell (.inl (by simp [fp])) _).setCell (.inl (by simp [fp])) _).setCell (.inl (by simp [fp])) _).setCell (.inl (by simp [fp])) _).setCell (.inl (by simp [fp])) _).setCell (.inl (by simp [fp])) _) ?_ hk hl hn hf hinv) (Kept.refl [] _).drew
  rw [← rowV_set9 Y i hi v0 v1 v2 v3 v4 v5 v6 v7 v8 e' he]
  exact (((((((((h6.row.stored (i * 10 + 0) v0).1.stored (i * 10 + 1) v1).1.stored (i * 10 + 2) v2).1.stored (i * 10 + 3) v3).1.stored (i * 10 + 4) v4).1.stored (i * 10 + 5) v5).1.stored (i * 10 + 6) v6).1.stored (i * 10 + 7) v7).1.stored (i * 10 + 8) v8).1
theorem RefAt.free {w : World} {qb g : Nat} {idle abs : Int} {cap : Nat} {Y : List EP} (h : RefAt w qb idle abs (some ⟨g, 0, none⟩) cap Y) (j : Nat) (hy : 0 < Y.length) : w.frozen? ⟨g, j, none⟩ = false := by
  obtain ⟨g', cur, e, hg, _⟩ := h.get hy
  injection e with e; injection e with e
  subst e
  exact free_at hg j

/-! ### Get -/
def GotR (w w' : World) (e : Ending) (r : Str × Sess) (c : Int) : Prop := ∃ pa pc ca cc, e = .returned (.tuple #[sessA r.1 r.2 pa pc ca cc, .int .i64 c]) ∧ PrfsAt w' pa r.2.proofs ∧ StrsAt w' ca r.2.clients ∧ Kept [] w w'
set_option maxHeartbeats 8000000 in
set_option maxRecDepth 100000 in
theorem rget_any {w : World} {qb : Nat} {idle abs : Int} {a : Option Addr} {cap : Nat} {Y : List EP} (h : RefAt w qb idle abs a cap Y) (s : ByteArray) (now : Int) :
    Calls Try.prog 22 #[.pointer (some ⟨qb, 0, none⟩), .string s, .int .i64 now] w fun e w' => GotR w w' e (getR (absK Y) s.data.toList now) (findC (absK Y) s.data.toList now) := by
  have hk0 := (Kept.refl [] w).alloc (.cells #[.string ⟨#[]⟩, .string ⟨#[]⟩, .string ⟨#[]⟩, .string ⟨#[]⟩, .int .i64 0, .int .i64 0, .int .i64 0, .slice none 0 0, .slice none 0 0] 33 (0, 0))
  have hb0 := heap_alloc_new w (.cells #[.string ⟨#[]⟩, .string ⟨#[]⟩, .string ⟨#[]⟩, .string ⟨#[]⟩, .int .i64 0, .int .i64 0, .int .i64 0, .slice none 0 0, .slice none 0 0] 33 (0, 0))
  obtain ⟨w0, HW0⟩ : ∃ w0, Hid (w0 = w.alloc (.cells #[.string ⟨#[]⟩, .string ⟨#[]⟩, .string ⟨#[]⟩, .string ⟨#[]⟩, .int .i64 0, .int .i64 0, .int .i64 0, .slice none 0 0, .slice none 0 0] 33 (0, 0))) := ⟨_, hid rfl⟩
  rw [← HW0.out] at hk0 hb0
  have HK0 := hid hk0
  have HB0 := hid hb0
  have h0 := h.keptN hk0
  have HF := hid (rlive_any h0 s now)
  have hfew := h.few
  by_cases hz : findC (absK Y) s.data.toList now = 0
  · obtain ⟨i, hi, hv, hk, hl, _, _⟩ := rlive hz
    rw [hz, hv] at HF
    have E := hid (show getR (absK Y) s.data.toList now = (Y[i].id, Y[i].x) by unfold getR; rw [if_pos hz, hl, hk])
    rw [E.out, hz]
    obtain ⟨g, cur, rfl, hg, hcs, hnc, hc⟩ := h0.get hi
    have hi1 : (0 : Int) ≤ i := by omega
    have hi2 : (i : Int) < Y.length := by omega
    have H0 := hid h0
    have HKL := hid (h0.each _ (List.getElem_mem hi))
    have HGC := hid (fun wq (k : Kept [] w0 wq) => (show EC wq g (i * 10) Y[i] by obtain ⟨g', _, e, _, _, _, hc'⟩ := (H0.out.keptN k).get hi; injection e with e; injection e with e; subst e; exact hc'))
    clear h h0 hz hv hk hl hk0 hb0 E hc hg
    generalize Y[i] = y at *
    go_enter Try.func22, Try.ntmps22
    go_wp2_with fail
    rw [← HW0.out]
    refine HF.out.mono ?_
    rintro e w1 ⟨rfl, hd⟩
    have HD := hid hd.kept
    obtain ⟨a0, a1, a2, a3, a4, a5, a6, a7, a8, f0, f1, f2, f3, f4, f5, f6, f7, f8⟩ := nine_cells (hd.kept.at HB0.out (by simp))
    obtain ⟨d0, d1, d2, d3, d4, d5, d6, d7, d8, d9⟩ := HGC.out w1 hd.kept
    have c3 := (H0.out.keptN hd.kept).c3
    have HP := hid ((HKL.out.keptN hd.kept).1.1)
    have HC := hid ((HKL.out.keptN hd.kept).2.1)
    clear hd
    go_wp2_with fail
    refine bodyPost_ret (v := .tuple #[.agg #[.string ⟨y.id.toArray⟩, .string ⟨y.x.user.toArray⟩, .string ⟨y.x.tenant.toArray⟩, .string ⟨y.x.device.toArray⟩, .int .i64 y.x.started, .int .i64 y.x.seen, .int .i64 y.x.until_, .slice y.pa y.x.proofs.length y.pc, .slice y.ca y.x.clients.length y.cc], .int .i64 0]) (by simp [results, Try.results22, go_sem, a0, a1, a2, a3, a4, a5, a6, a7, a8]) rfl ?_
    have hK := kept9 w.heap.size w1 (.string ⟨y.id.toArray⟩) (.string ⟨y.x.user.toArray⟩) (.string ⟨y.x.tenant.toArray⟩) (.string ⟨y.x.device.toArray⟩) (.int .i64 y.x.started) (.int .i64 y.x.seen) (.int .i64 y.x.until_) (.slice y.pa y.x.proofs.length y.pc) (.slice y.ca y.x.clients.length y.cc)
    have hne : ∀ j, j ∈ fp y.pa ∨ j ∈ fp y.ca → j ≠ w.heap.size := fun j hj e => by
      obtain ⟨cur, t, hc, _⟩ := HKL.out.blk j hj
      have hB := HB0.out
      subst e
      rw [hB] at hc
      injection hc with hc
      injection hc with _ hc _
      rcases hj with hj | hj
      · obtain ⟨cur2, hc2⟩ := HKL.out.1.2 _ hj
        rw [hB] at hc2; injection hc2 with hc2; injection hc2 with _ hc2 _
        exact absurd hc2 (by decide)
      · obtain ⟨cur2, hc2⟩ := HKL.out.2.2 _ hj
        rw [hB] at hc2; injection hc2 with hc2; injection hc2 with _ hc2 _
        exact absurd hc2 (by decide)
    refine ⟨y.pa, y.pc, y.ca, y.cc, rfl, SeqAt.kept HP.out CEnc.lasts hK (fun _ z hz hm => ?_), SeqAt.kept HC.out CEnc.lasts hK (fun _ z hz hm => ?_), ?_⟩
    · simp at hm
      exact hne z.block (.inl (by rw [hz]; simp [fp])) hm
    · simp at hm
      exact hne z.block (.inr (by rw [hz]; simp [fp])) hm
    · exact (((HK0.out.step HD.out (by simp)).mono (T := [w.heap.size]) (by simp)).step hK (fun _ hi => hi)).mono (fun i hi => .inr (by simp at hi; omega))
  · have E := hid (show getR (absK Y) s.data.toList now = ([], zs) by unfold getR; rw [if_neg hz])
    have E2 := hid (show liveI Y s.data.toList now = -1 by unfold liveI; rw [if_neg hz])
    have hne : (findC (absK Y) s.data.toList now != 0) = true := by simpa using hz
    rw [E2.out] at HF
    rw [E.out]
    generalize findC (absK Y) s.data.toList now = c at *
    clear h h0 hz hk0 hb0
    go_enter Try.func22, Try.ntmps22
    go_wp2_with fail
    rw [← HW0.out]
    refine HF.out.mono ?_
    rintro e w1 ⟨rfl, hd⟩
    have HD := hid hd.kept
    have hb1 := hd.kept.at HB0.out (by simp)
    clear hd
    obtain ⟨a0, a1, a2, a3, a4, a5, a6, a7, a8, f0, f1, f2, f3, f4, f5, f6, f7, f8⟩ := nine_cells hb1
    go_wp2_with fail
    refine bodyPost_ret (v := .tuple #[.agg #[.string ⟨#[]⟩, .string ⟨#[]⟩, .string ⟨#[]⟩, .string ⟨#[]⟩, .int .i64 0, .int .i64 0, .int .i64 0, .slice none 0 0, .slice none 0 0], .int .i64 c]) (by simp [results, Try.results22, go_sem, a0, a1, a2, a3, a4, a5, a6, a7, a8]) rfl ?_
    refine ⟨none, 0, none, 0, rfl, list_nil _ _, list_nil _ _, ?_⟩
    exact (((HK0.out.step HD.out (by simp)).mono (T := [w.heap.size]) (by simp)).step (kept9 w.heap.size w1 (.string ⟨#[]⟩) (.string ⟨#[]⟩) (.string ⟨#[]⟩) (.string ⟨#[]⟩) (.int .i64 0) (.int .i64 0) (.int .i64 0) (.slice none 0 0) (.slice none 0 0)) (fun _ hi => hi)).mono (fun i hi => .inr (by simp at hi; omega))

/-! ### End -/
set_option maxHeartbeats 4000000 in
set_option maxRecDepth 100000 in
theorem rend_any {w : World} {qb : Nat} {idle abs : Int} {a : Option Addr} {cap : Nat} {Y : List EP} (h : RefAt w qb idle abs a cap Y) (s : ByteArray) :
    Calls Try.prog 46 #[.pointer (some ⟨qb, 0, none⟩), .string s] w fun e w' => (∃ la lc, e = .returned (.tuple #[.slice la (endL (absK Y) s.data.toList).length lc, .int .i64 (endC (absK Y) s.data.toList)]) ∧ StrsAt w' la (endL (absK Y) s.data.toList)) ∧ RLeft w w' qb idle abs a Y (endU (absK Y) s.data.toList) := by
  have HF := hid (rfind_any h s)
  have c0 := h.c0
  have c3 := h.c3
  have hfew := h.few
  have HH := hid h
  rcases look_idx (Y := Y) (k := s.data.toList) with ⟨e, hn⟩ | ⟨i, hi, e, hk, hl⟩
  · rw [e] at HF
    have E := hid (show endC (absK Y) s.data.toList = 6 by unfold endC; rw [hn])
    have E2 := hid (show endL (absK Y) s.data.toList = [] by unfold endL; rw [E.out]; rfl)
    have E3 := hid (show endU (absK Y) s.data.toList = absK Y by unfold endU; rw [E.out]; rfl)
    rw [E.out, E2.out, E3.out]
    clear e hn h
    go_enter Try.func46, Try.ntmps46
    go_wp2_with (go_at_call 49; refine (rmade_any c0).mono ?_; rintro e w' ⟨rfl, rfl⟩)
    refine HF.out.mono ?_
    rintro e w' ⟨rfl, rfl⟩
    go_wp2_with fail
    go_ret2
    exact ⟨⟨none, 0, rfl, list_nil _ none⟩, RLeft.same HH.out (Kept.refl _ _)⟩
  · rw [e] at HF
    obtain ⟨g, cur, rfl, hg, hcs, hnc, hc⟩ := h.get hi
    have hi1 : (0 : Int) ≤ i := by omega
    have hi2 : (i : Int) < Y.length := by omega
    cases hen : Y[i].x.ended
    · have E := hid (show endC (absK Y) s.data.toList = 0 by unfold endC; rw [hl]; show (if Y[i].x.ended = true then (6 : Int) else 0) = 0; rw [hen]; rfl)
      have E2 := hid (show endL (absK Y) s.data.toList = Y[i].x.clients by unfold endL clientsOf; rw [E.out, hl]; rfl)
      have E3 := hid (show endU (absK Y) s.data.toList = updU (absK Y) Y[i].id endX by unfold endU; rw [E.out, hk]; rfl)
      rw [E.out, E2.out, E3.out]
      have hKL := h.each _ (List.getElem_mem hi)
      have HKL := hid hKL
      have HS := hid (h.set1 hi (Kept.refl [] w) 9 (by omega) (.bool true) { Y[i] with x := endX Y[i].x } rfl rfl hKL (fun j hj => .inl hj) (f := endX) rfl (h.good.inv (Y[i].id, Y[i].x) (List.mem_map.2 ⟨Y[i], List.getElem_mem hi, rfl⟩)).end_)
      have d9 := hc.c9
      have d8 := hc.c8
      rw [hen] at d9
      have f9 := free_at hg (i * 10 + 9)
      have hqg : g ≠ qb := fun e => h.g_ne (by rw [e]; simp [fp])
      have hne : ∀ j ∈ fp Y[i].ca, j ≠ g := fun j hj e => by
        obtain ⟨cur2, hc2⟩ := hKL.2.2 j hj
        rw [e, hg] at hc2
        injection hc2 with hc2; injection hc2 with _ hc2 _
        exact absurd hc2 (by decide)
      have HST := hid (show StrsAt (w.setCell ⟨g, i * 10 + 9, none⟩ (.bool true)) Y[i].ca Y[i].x.clients from SeqAt.kept hKL.2.1 CEnc.lasts ((Kept.refl [g] w).setCell (.inl (by simp)) _) (fun _ z hz hm => by simp at hm; exact hne z.block (by rw [hz]; simp [fp]) hm))
      have HC3 := hid (show (w.setCell ⟨g, i * 10 + 9, none⟩ (.bool true)).cell? ⟨qb, 3, none⟩ = some (.slice (some ⟨g, 0, none⟩) Y.length cap) from (((Kept.refl [g] w).setCell (.inl (by simp)) _).cell (lt_of_heap h.blk) (by simp; exact fun e => hqg e.symm)).trans c3)
      have HC8 := hid (show (w.setCell ⟨g, i * 10 + 9, none⟩ (.bool true)).cell? ⟨g, i * 10 + 8, none⟩ = some (.slice Y[i].ca Y[i].x.clients.length Y[i].cc) by rw [World.cell?_setCell_other _ _ _ _ (by simp)]; exact d8)
      have hc3' := HC3.out
      have hc8' := HC8.out
      clear h hl hk hKL hne e hen hc
      generalize Y[i] = y at *
      go_enter Try.func46, Try.ntmps46
      go_wp2_with (go_at_call 49; refine (rmade_any c0).mono ?_; rintro e w' ⟨rfl, rfl⟩)
      refine HF.out.mono ?_
      rintro e w' ⟨rfl, rfl⟩
      go_wp2_with fail
      go_ret2
      exact ⟨⟨y.ca, y.cc, rfl, HST.out⟩, HS.out⟩
    · have E := hid (show endC (absK Y) s.data.toList = 6 by unfold endC; rw [hl]; show (if Y[i].x.ended = true then (6 : Int) else 0) = 6; rw [hen]; rfl)
      have E2 := hid (show endL (absK Y) s.data.toList = [] by unfold endL; rw [E.out]; rfl)
      have E3 := hid (show endU (absK Y) s.data.toList = absK Y by unfold endU; rw [E.out]; rfl)
      rw [E.out, E2.out, E3.out]
      have d9 := hc.c9
      rw [hen] at d9
      clear h hl hk e hen hc
      go_enter Try.func46, Try.ntmps46
      go_wp2_with (go_at_call 49; refine (rmade_any c0).mono ?_; rintro e w' ⟨rfl, rfl⟩)
      refine HF.out.mono ?_
      rintro e w' ⟨rfl, rfl⟩
      go_wp2_with fail
      go_ret2
      exact ⟨⟨none, 0, rfl, list_nil _ none⟩, RLeft.same HH.out (Kept.refl _ _)⟩
/-! ### Len -/
set_option maxHeartbeats 2000000 in
theorem rlen_any {w : World} {qb : Nat} {idle abs : Int} {a : Option Addr} {cap : Nat} {Y : List EP} (h : RefAt w qb idle abs a cap Y) :
    Calls Try.prog 24 #[.pointer (some ⟨qb, 0, none⟩)] w fun e w' => e = .returned (.int .i64 (lenN (absK Y) : Nat)) ∧ w = w' := by
  have c0 := h.c0
  have c3 := h.c3
  have hfew := h.few
  have HEQ := hid (show lenN (absK Y) = (Y.filter fun q => !q.x.ended).length by unfold lenN absK; rw [List.filter_map, List.length_map]; rfl)
  rw [HEQ.out]
  obtain ⟨f, HF⟩ : ∃ f : EP → Bool, Hid (f = fun q => !q.x.ended) := ⟨_, hid rfl⟩
  rw [← HF.out]
  go_enter Try.func24, Try.ntmps24
  go_wp2_with (go_at_call 49; refine (rmade_any c0).mono ?_; rintro e w' ⟨rfl, rfl⟩)
  go_loop [3, 4] (fun v i => ∃ k : Nat, k ≤ Y.length ∧ i = .int .i64 k ∧ v = .int .i64 (((Y.take k).filter f).length : Nat)) (fun _ i => Y.length - (intOf i).toNat)
  case atStart => exact ⟨0, Nat.zero_le _, rfl, rfl⟩
  case round =>
    obtain ⟨k, hk, rfl, rfl⟩ := hrel
    have hml : ((Y.take k).filter f).length ≤ k := Nat.le_trans (List.length_filter_le _ _) (by simp; omega)
    by_cases hlt : k < Y.length
    · obtain ⟨g, cur, rfl, hg, hcs, hnc, hc⟩ := h.get hlt
      have hb1 : (0 : Int) ≤ k := by omega
      have hb2 : (k : Int) < Y.length := by omega
      have HT := hid (List.take_succ_eq_append_getElem hlt)
      have HV := hid (show f Y[k] = !Y[k].x.ended by rw [HF.out])
      have d9 := hc.c9
      clear hc hg
      generalize Y[k] = y at *
      have HM := hid (show ((Y.take (k + 1)).filter f).length = ((Y.take k).filter f).length + (if f y then 1 else 0) by rw [HT.out, List.filter_append, List.length_append, List.filter_cons]; split <;> simp)
      generalize ((Y.take k).filter f).length = m at *
      have hm1 : (0 : Int) ≤ m := by omega
      have hm2 : (m : Int) ≤ 256 := by omega
      cases hen : y.x.ended
      · rw [hen] at d9 HV
        rw [HV.out] at HM
        clear hen
        go_wp2_with fail
        go_round
        case rel => exact ⟨k + 1, by omega, by go_num, by rw [HM.out]; simp⟩
        case measure => simp [intOf]; omega
      · rw [hen] at d9 HV
        rw [HV.out] at HM
        clear hen
        go_wp2_with fail
        go_round
        case rel => exact ⟨k + 1, by omega, by go_num, by rw [HM.out]; simp⟩
        case measure => simp [intOf]; omega
    · have HE := hid (show ((Y.take k).filter f).length = (Y.filter f).length by rw [List.take_of_length_le (by omega)])
      go_wp2_with fail
      go_ret
      rw [HE.out]
      exact ⟨rfl, rfl⟩
end Go.Proofs.Ytakccoiecmibcaa
