/- do: an operation of the program. Printed by gen_do.py. -/
import Derived.Test.YtionejokdfgmhaaLong
namespace Go.Proofs.Ytionejokdfgmhaa
open Go.RowKit Go.Maps

structure Res where
  a : Str
  b : Str
  list : List Str
  n : Int
  e : Int
def res0 : Res := ⟨[], [], [], 0, 0⟩
def doR (U : Wfs) (x : OpD) : Res :=
  if x.kind = 1 then { res0 with e := startC U x.id x.name x.user x.by_ x.steps x.until_ x.now }
  else if x.kind = 2 then { res0 with e := apprC U x.id x.by_ x.groups x.now }
  else if x.kind = 3 then { res0 with e := rejC U x.id x.groups x.now }
  else if x.kind = 4 then { res0 with a := (stR U x.id x.now).1, n := ((stR U x.id x.now).2 : Nat) }
  else if x.kind = 5 then { res0 with a := (takeR U x.id x.now).1, b := (takeR U x.id x.now).2.1, e := (takeR U x.id x.now).2.2 }
  else if x.kind = 6 then { res0 with list := openL U x.name x.now }
  else if x.kind = 7 then { res0 with n := cancN U x.user }
  else res0
def doU (U : Wfs) (x : OpD) : Wfs :=
  if x.kind = 1 then startU U x.id x.name x.user x.by_ x.steps x.until_ x.now
  else if x.kind = 2 then apprU U x.id x.by_ x.groups x.now
  else if x.kind = 3 then rejU U x.id x.groups x.now
  else if x.kind = 5 then takeU U x.id x.now
  else if x.kind = 7 then cancU U x.user
  else U
/-- A result is handed back. -/
def DoRes (w w' : World) (e : Ending) (r : Res) : Prop := ∃ a c, e = .returned (.agg #[sV r.a, sV r.b, .slice a r.list.length c, .int .i64 r.n, .int .i64 r.e]) ∧ StrsAt w' a r.list ∧ ∀ i ∈ fp a, w.heap.size ≤ i
theorem Left.wrap {S : List Nat} {w w2 w3 w4 : World} {wb mb : Nat} {X : PXs} {U' : Wfs} (h : WfAt w wb mb X) (k2 : Kept [] w w2) (hL : Left w2 w3 wb mb X U') (k : Kept S w3 w4) (hS : ∀ i ∈ S, w.heap.size ≤ i ∧ i < w2.heap.size) : Left w w4 wb mb X U' := by
  obtain ⟨X', h', e, k3, hd⟩ := hL
  have hsz := k2.size
  refine ⟨X', h'.kept k (fun i hi hs => ?_), e, ?_, fun i hi => (hd i hi).imp id (fun e => by omega)⟩
  · have h1 := hS i hs
    rcases hd i hi with e | e
    · have := h.lt i e; omega
    · omega
  · exact ((k2.mono (T := wdom wb mb X) (by simp)).step k3 (fun i hi => hi)).trans k (fun i hi => .inr (hS i hi).1)
theorem Left.kept {w w' : World} {wb mb : Nat} {X : PXs} {U' : Wfs} (h : Left w w' wb mb X U') : Kept (wdom wb mb X) w w' := by obtain ⟨_, _, _, k, _⟩ := h; exact k
theorem zero_cells {w : World} {b : Nat} {t : TypeId} {v0 v1 v2 v3 v4 : Value} (h : w.heap[b]? = some (.cells #[v0, v1, v2, v3, v4] t (0, 0))) :
    w.cell? ⟨b, 0, none⟩ = some v0 ∧ w.cell? ⟨b, 1, none⟩ = some v1 ∧ w.cell? ⟨b, 2, none⟩ = some v2 ∧ w.cell? ⟨b, 3, none⟩ = some v3 ∧ w.cell? ⟨b, 4, none⟩ = some v4 ∧ w.frozen? ⟨b, 0, none⟩ = false ∧ w.frozen? ⟨b, 1, none⟩ = false ∧ w.frozen? ⟨b, 2, none⟩ = false ∧ w.frozen? ⟨b, 3, none⟩ = false ∧ w.frozen? ⟨b, 4, none⟩ = false := by
  refine ⟨?_, ?_, ?_, ?_, ?_, free_at h _, free_at h _, free_at h _, free_at h _, free_at h _⟩ <;> (rw [cell_at h]; rfl)
theorem Small.ids {x : OpD} (h : Small x) : (⟨x.id.toArray⟩ : ByteArray).size ≤ maxLen ∧ (⟨x.name.toArray⟩ : ByteArray).size ≤ maxLen ∧ (⟨x.user.toArray⟩ : ByteArray).size ≤ maxLen ∧ (⟨x.by_.toArray⟩ : ByteArray).size ≤ maxLen := by
  have h1 := h.id; have h2 := h.name; have h3 := h.user; have h4 := h.by_
  rw [size_str, size_str, size_str, size_str]
  unfold maxLen
  omega
theorem Small.short {x : OpD} (h : Small x) : ShortT x.steps := fun s hs => by have := h.grp s hs; unfold maxLen; omega

set_option maxHeartbeats 8000000 in
set_option maxRecDepth 100000 in
theorem do_any {w : World} {wb mb : Nat} {X : PXs} (h : WfAt w wb mb X) (x : OpD) (hs : Small x) (hl : OpLists w x) :
    Calls Try.prog 14 #[.pointer (some ⟨wb, 0, none⟩), .agg #[.int .i64 x.kind, .string ⟨x.id.toArray⟩, .string ⟨x.name.toArray⟩, .string ⟨x.user.toArray⟩, .string ⟨x.by_.toArray⟩, .slice x.sa x.steps.length x.sc, .slice x.ga x.groups.length x.gc, .int .i64 x.until_, .int .i64 x.now]] w fun e w' => DoRes w w' e (doR (absW X) x) ∧ Left w w' wb mb X (doU (absW X) x) := by
  have k2 := (((Kept.refl [] w).alloc (.cells #[.int .i64 x.kind, .string ⟨x.id.toArray⟩, .string ⟨x.name.toArray⟩, .string ⟨x.user.toArray⟩, .string ⟨x.by_.toArray⟩, .slice x.sa x.steps.length x.sc, .slice x.ga x.groups.length x.gc, .int .i64 x.until_, .int .i64 x.now] 37 (0, 0))).alloc (.cells #[.string ⟨#[]⟩, .string ⟨#[]⟩, .slice none 0 0, .int .i64 0, .int .i64 0] 33 (0, 0))).alloc (.cells #[.string ⟨#[]⟩, .string ⟨#[]⟩, .slice none 0 0, .int .i64 0, .int .i64 0] 33 (0, 0))
  have hb4 : (((w.alloc (.cells #[.int .i64 x.kind, .string ⟨x.id.toArray⟩, .string ⟨x.name.toArray⟩, .string ⟨x.user.toArray⟩, .string ⟨x.by_.toArray⟩, .slice x.sa x.steps.length x.sc, .slice x.ga x.groups.length x.gc, .int .i64 x.until_, .int .i64 x.now] 37 (0, 0))).alloc (.cells #[.string ⟨#[]⟩, .string ⟨#[]⟩, .slice none 0 0, .int .i64 0, .int .i64 0] 33 (0, 0))).alloc (.cells #[.string ⟨#[]⟩, .string ⟨#[]⟩, .slice none 0 0, .int .i64 0, .int .i64 0] 33 (0, 0))).heap[w.heap.size + 1]? = some (.cells #[.string ⟨#[]⟩, .string ⟨#[]⟩, .slice none 0 0, .int .i64 0, .int .i64 0] 33 (0, 0)) := (Below.heap_alloc _ _ _ (by simp)).trans (by have := heap_alloc_new (w.alloc (.cells #[.int .i64 x.kind, .string ⟨x.id.toArray⟩, .string ⟨x.name.toArray⟩, .string ⟨x.user.toArray⟩, .string ⟨x.by_.toArray⟩, .slice x.sa x.steps.length x.sc, .slice x.ga x.groups.length x.gc, .int .i64 x.until_, .int .i64 x.now] 37 (0, 0))) (.cells #[.string ⟨#[]⟩, .string ⟨#[]⟩, .slice none 0 0, .int .i64 0, .int .i64 0] 33 (0, 0)); simpa using this)
  have hb5 : (((w.alloc (.cells #[.int .i64 x.kind, .string ⟨x.id.toArray⟩, .string ⟨x.name.toArray⟩, .string ⟨x.user.toArray⟩, .string ⟨x.by_.toArray⟩, .slice x.sa x.steps.length x.sc, .slice x.ga x.groups.length x.gc, .int .i64 x.until_, .int .i64 x.now] 37 (0, 0))).alloc (.cells #[.string ⟨#[]⟩, .string ⟨#[]⟩, .slice none 0 0, .int .i64 0, .int .i64 0] 33 (0, 0))).alloc (.cells #[.string ⟨#[]⟩, .string ⟨#[]⟩, .slice none 0 0, .int .i64 0, .int .i64 0] 33 (0, 0))).heap[w.heap.size + 2]? = some (.cells #[.string ⟨#[]⟩, .string ⟨#[]⟩, .slice none 0 0, .int .i64 0, .int .i64 0] 33 (0, 0)) := by have := heap_alloc_new ((w.alloc (.cells #[.int .i64 x.kind, .string ⟨x.id.toArray⟩, .string ⟨x.name.toArray⟩, .string ⟨x.user.toArray⟩, .string ⟨x.by_.toArray⟩, .slice x.sa x.steps.length x.sc, .slice x.ga x.groups.length x.gc, .int .i64 x.until_, .int .i64 x.now] 37 (0, 0))).alloc (.cells #[.string ⟨#[]⟩, .string ⟨#[]⟩, .slice none 0 0, .int .i64 0, .int .i64 0] 33 (0, 0))) (.cells #[.string ⟨#[]⟩, .string ⟨#[]⟩, .slice none 0 0, .int .i64 0, .int .i64 0] 33 (0, 0)); simpa using this
  have hz2 : (((w.alloc (.cells #[.int .i64 x.kind, .string ⟨x.id.toArray⟩, .string ⟨x.name.toArray⟩, .string ⟨x.user.toArray⟩, .string ⟨x.by_.toArray⟩, .slice x.sa x.steps.length x.sc, .slice x.ga x.groups.length x.gc, .int .i64 x.until_, .int .i64 x.now] 37 (0, 0))).alloc (.cells #[.string ⟨#[]⟩, .string ⟨#[]⟩, .slice none 0 0, .int .i64 0, .int .i64 0] 33 (0, 0))).alloc (.cells #[.string ⟨#[]⟩, .string ⟨#[]⟩, .slice none 0 0, .int .i64 0, .int .i64 0] 33 (0, 0))).heap.size = w.heap.size + 3 := by simp
  obtain ⟨w2, HW0⟩ : ∃ w2, Hid (w2 = ((w.alloc (.cells #[.int .i64 x.kind, .string ⟨x.id.toArray⟩, .string ⟨x.name.toArray⟩, .string ⟨x.user.toArray⟩, .string ⟨x.by_.toArray⟩, .slice x.sa x.steps.length x.sc, .slice x.ga x.groups.length x.gc, .int .i64 x.until_, .int .i64 x.now] 37 (0, 0))).alloc (.cells #[.string ⟨#[]⟩, .string ⟨#[]⟩, .slice none 0 0, .int .i64 0, .int .i64 0] 33 (0, 0))).alloc (.cells #[.string ⟨#[]⟩, .string ⟨#[]⟩, .slice none 0 0, .int .i64 0, .int .i64 0] 33 (0, 0))) := ⟨_, hid rfl⟩
  rw [← HW0.out] at k2 hb4 hb5 hz2
  have HW2 := h.keptN k2
  have HH2 := hid HW2
  have HL2 := hl.keptN k2
  have HB4 := hid hb4
  have HB5 := hid hb5
  have HK2 := hid k2
  have HH := hid h
  have HN4 := hid (show w.heap.size + 1 ∉ wdom wb mb X from fun hi => by have := h.lt _ hi; omega)
  have HN5 := hid (show w.heap.size + 2 ∉ wdom wb mb X from fun hi => by have := h.lt _ hi; omega)
  have HZ2 := hid hz2
  have HR := hid (show doR (absW X) x = doR (absW X) x from rfl)
  clear h hl k2 hb4 hb5 hz2
  by_cases x1 : x.kind = 1
  · have HRR := hid (show doR (absW X) x = { res0 with e := startC (absW X) x.id x.name x.user x.by_ x.steps x.until_ x.now } by unfold doR; rw [if_pos x1])
    have HUU := hid (show doU (absW X) x = startU (absW X) x.id x.name x.user x.by_ x.steps x.until_ x.now by unfold doU; rw [if_pos x1])
    rw [HRR.out, HUU.out]
    have q1 : (x.kind == 1) = true := by rw [beq_iff_eq]; exact x1
    clear x1
    have HC := hid (start_any HW2 ⟨x.id.toArray⟩ ⟨x.name.toArray⟩ ⟨x.user.toArray⟩ ⟨x.by_.toArray⟩ hs.ids.1 hs.ids.2.1 hs.ids.2.2.1 hs.ids.2.2.2 (cap := x.sc) HL2.1 hs.short x.until_ x.now)
    clear HW2 HL2
    go_enter Try.func14, Try.ntmps14
    go_wp2_with fail
    rw [← HW0.out]
    refine HC.out.mono ?_
    rintro e w3 ⟨rfl, hL⟩
    obtain ⟨a0, a1, a2, a3', a4, f0, f1, f2, f3, f4⟩ := zero_cells (hL.kept.at HB4.out HN4.out)
    obtain ⟨b0, b1, b2, b3, b4, g0, g1, g2, g3, g4⟩ := zero_cells (hL.kept.at HB5.out HN5.out)
    go_wp2_with fail
    refine bodyPost_ret (v := .agg #[.string ⟨#[]⟩, .string ⟨#[]⟩, .slice none 0 0, .int .i64 0, .int .i64 (startC (absW X) x.id x.name x.user x.by_ x.steps x.until_ x.now)]) (by simp [results, Try.results14, go_sem, a0, a1, a2, a3', a4]) rfl ⟨?_, Left.wrap HH.out HK2.out hL (((((((Kept.refl [w.heap.size + 1, w.heap.size + 1 + 1] w3).setCell (.inl (by simp)) _).setCell (.inl (by simp)) _).setCell (.inl (by simp)) _).setCell (.inl (by simp)) _).setCell (.inl (by simp)) _).setCell (.inl (by simp)) _) (fun i hi => by have := HZ2.out; simp at hi; omega)⟩
    exact ⟨none, 0, rfl, list_nil _ none, by simp [fp]⟩
  · by_cases x2 : x.kind = 2
    · have HRR := hid (show doR (absW X) x = { res0 with e := apprC (absW X) x.id x.by_ x.groups x.now } by unfold doR; rw [if_neg x1, if_pos x2])
      have HUU := hid (show doU (absW X) x = apprU (absW X) x.id x.by_ x.groups x.now by unfold doU; rw [if_neg x1, if_pos x2])
      rw [HRR.out, HUU.out]
      have q1 : (x.kind == 1) = false := by rw [beq_eq_false_iff_ne]; exact x1
      have q2 : (x.kind == 2) = true := by rw [beq_iff_eq]; exact x2
      clear x1 x2
      have HC := hid (approve_any HW2 ⟨x.id.toArray⟩ ⟨x.by_.toArray⟩ hs.ids.1 (cap := x.gc) HL2.2 x.now)
      clear HW2 HL2
      go_enter Try.func14, Try.ntmps14
      go_wp2_with fail
      rw [← HW0.out]
      refine HC.out.mono ?_
      rintro e w3 ⟨rfl, hL⟩
      obtain ⟨a0, a1, a2, a3', a4, f0, f1, f2, f3, f4⟩ := zero_cells (hL.kept.at HB4.out HN4.out)
      obtain ⟨b0, b1, b2, b3, b4, g0, g1, g2, g3, g4⟩ := zero_cells (hL.kept.at HB5.out HN5.out)
      go_wp2_with fail
      refine bodyPost_ret (v := .agg #[.string ⟨#[]⟩, .string ⟨#[]⟩, .slice none 0 0, .int .i64 0, .int .i64 (apprC (absW X) x.id x.by_ x.groups x.now)]) (by simp [results, Try.results14, go_sem, a0, a1, a2, a3', a4]) rfl ⟨?_, Left.wrap HH.out HK2.out hL (((((((Kept.refl [w.heap.size + 1, w.heap.size + 1 + 1] w3).setCell (.inl (by simp)) _).setCell (.inl (by simp)) _).setCell (.inl (by simp)) _).setCell (.inl (by simp)) _).setCell (.inl (by simp)) _).setCell (.inl (by simp)) _) (fun i hi => by have := HZ2.out; simp at hi; omega)⟩
      exact ⟨none, 0, rfl, list_nil _ none, by simp [fp]⟩
    · by_cases x3 : x.kind = 3
      · have HRR := hid (show doR (absW X) x = { res0 with e := rejC (absW X) x.id x.groups x.now } by unfold doR; rw [if_neg x1, if_neg x2, if_pos x3])
        have HUU := hid (show doU (absW X) x = rejU (absW X) x.id x.groups x.now by unfold doU; rw [if_neg x1, if_neg x2, if_pos x3])
        rw [HRR.out, HUU.out]
        have q1 : (x.kind == 1) = false := by rw [beq_eq_false_iff_ne]; exact x1
        have q2 : (x.kind == 2) = false := by rw [beq_eq_false_iff_ne]; exact x2
        have q3 : (x.kind == 3) = true := by rw [beq_iff_eq]; exact x3
        clear x1 x2 x3
        have HC := hid (reject_any HW2 ⟨x.id.toArray⟩ ⟨x.by_.toArray⟩ hs.ids.1 (cap := x.gc) HL2.2 x.now)
        clear HW2 HL2
        go_enter Try.func14, Try.ntmps14
        go_wp2_with fail
        rw [← HW0.out]
        refine HC.out.mono ?_
        rintro e w3 ⟨rfl, hL⟩
        obtain ⟨a0, a1, a2, a3', a4, f0, f1, f2, f3, f4⟩ := zero_cells (hL.kept.at HB4.out HN4.out)
        obtain ⟨b0, b1, b2, b3, b4, g0, g1, g2, g3, g4⟩ := zero_cells (hL.kept.at HB5.out HN5.out)
        go_wp2_with fail
        refine bodyPost_ret (v := .agg #[.string ⟨#[]⟩, .string ⟨#[]⟩, .slice none 0 0, .int .i64 0, .int .i64 (rejC (absW X) x.id x.groups x.now)]) (by simp [results, Try.results14, go_sem, a0, a1, a2, a3', a4]) rfl ⟨?_, Left.wrap HH.out HK2.out hL (((((((Kept.refl [w.heap.size + 1, w.heap.size + 1 + 1] w3).setCell (.inl (by simp)) _).setCell (.inl (by simp)) _).setCell (.inl (by simp)) _).setCell (.inl (by simp)) _).setCell (.inl (by simp)) _).setCell (.inl (by simp)) _) (fun i hi => by have := HZ2.out; simp at hi; omega)⟩
        exact ⟨none, 0, rfl, list_nil _ none, by simp [fp]⟩
      · by_cases x4 : x.kind = 4
        · have HRR := hid (show doR (absW X) x = { res0 with a := (stR (absW X) x.id x.now).1, n := ((stR (absW X) x.id x.now).2 : Nat) } by unfold doR; rw [if_neg x1, if_neg x2, if_neg x3, if_pos x4])
          have HUU := hid (show doU (absW X) x = absW X by unfold doU; rw [if_neg x1, if_neg x2, if_neg x3, if_neg (by omega), if_neg (by omega)])
          rw [HRR.out, HUU.out]
          have q1 : (x.kind == 1) = false := by rw [beq_eq_false_iff_ne]; exact x1
          have q2 : (x.kind == 2) = false := by rw [beq_eq_false_iff_ne]; exact x2
          have q3 : (x.kind == 3) = false := by rw [beq_eq_false_iff_ne]; exact x3
          have q4 : (x.kind == 4) = true := by rw [beq_iff_eq]; exact x4
          clear x1 x2 x3 x4
          have HC := hid (statew_any HW2 ⟨x.id.toArray⟩ hs.ids.1 x.now)
          unfold sV at HC
          clear HW2 HL2
          go_enter Try.func14, Try.ntmps14
          go_wp2_with fail
          rw [← HW0.out]
          refine HC.out.mono ?_
          rintro e w3 ⟨rfl, hd⟩
          have hL : Left w2 w3 wb mb X (absW X) := Left.same HH2.out hd.kept
          obtain ⟨a0, a1, a2, a3', a4, f0, f1, f2, f3, f4⟩ := zero_cells (hL.kept.at HB4.out HN4.out)
          obtain ⟨b0, b1, b2, b3, b4, g0, g1, g2, g3, g4⟩ := zero_cells (hL.kept.at HB5.out HN5.out)
          go_wp2_with fail
          refine bodyPost_ret (v := .agg #[.string ⟨(stR (absW X) x.id x.now).1.toArray⟩, .string ⟨#[]⟩, .slice none 0 0, .int .i64 ((stR (absW X) x.id x.now).2 : Nat), .int .i64 0]) (by simp [results, Try.results14, go_sem, a0, a1, a2, a3', a4]) rfl ⟨?_, Left.wrap HH.out HK2.out hL ((((((((Kept.refl [w.heap.size + 1, w.heap.size + 1 + 1] w3).setCell (.inl (by simp)) _).setCell (.inl (by simp)) _).setCell (.inl (by simp)) _).setCell (.inl (by simp)) _).setCell (.inl (by simp)) _).setCell (.inl (by simp)) _).setCell (.inl (by simp)) _) (fun i hi => by have := HZ2.out; simp at hi; omega)⟩
          exact ⟨none, 0, rfl, list_nil _ none, by simp [fp]⟩
        · by_cases x5 : x.kind = 5
          · have HRR := hid (show doR (absW X) x = { res0 with a := (takeR (absW X) x.id x.now).1, b := (takeR (absW X) x.id x.now).2.1, e := (takeR (absW X) x.id x.now).2.2 } by unfold doR; rw [if_neg x1, if_neg x2, if_neg x3, if_neg x4, if_pos x5])
            have HUU := hid (show doU (absW X) x = takeU (absW X) x.id x.now by unfold doU; rw [if_neg x1, if_neg x2, if_neg x3, if_pos x5])
            rw [HRR.out, HUU.out]
            have q1 : (x.kind == 1) = false := by rw [beq_eq_false_iff_ne]; exact x1
            have q2 : (x.kind == 2) = false := by rw [beq_eq_false_iff_ne]; exact x2
            have q3 : (x.kind == 3) = false := by rw [beq_eq_false_iff_ne]; exact x3
            have q4 : (x.kind == 4) = false := by rw [beq_eq_false_iff_ne]; exact x4
            have q5 : (x.kind == 5) = true := by rw [beq_iff_eq]; exact x5
            clear x1 x2 x3 x4 x5
            have HC := hid (take_any HW2 ⟨x.id.toArray⟩ hs.ids.1 x.now)
            unfold Took sV at HC
            clear HW2 HL2
            go_enter Try.func14, Try.ntmps14
            go_wp2_with fail
            rw [← HW0.out]
            refine HC.out.mono ?_
            rintro e w3 ⟨rfl, hL⟩
            obtain ⟨a0, a1, a2, a3', a4, f0, f1, f2, f3, f4⟩ := zero_cells (hL.kept.at HB4.out HN4.out)
            obtain ⟨b0, b1, b2, b3, b4, g0, g1, g2, g3, g4⟩ := zero_cells (hL.kept.at HB5.out HN5.out)
            go_wp2_with fail
            refine bodyPost_ret (v := .agg #[.string ⟨(takeR (absW X) x.id x.now).1.toArray⟩, .string ⟨(takeR (absW X) x.id x.now).2.1.toArray⟩, .slice none 0 0, .int .i64 0, .int .i64 (takeR (absW X) x.id x.now).2.2]) (by simp [results, Try.results14, go_sem, a0, a1, a2, a3', a4]) rfl ⟨?_, Left.wrap HH.out HK2.out hL (((((((((Kept.refl [w.heap.size + 1, w.heap.size + 1 + 1] w3).setCell (.inl (by simp)) _).setCell (.inl (by simp)) _).setCell (.inl (by simp)) _).setCell (.inl (by simp)) _).setCell (.inl (by simp)) _).setCell (.inl (by simp)) _).setCell (.inl (by simp)) _).setCell (.inl (by simp)) _) (fun i hi => by have := HZ2.out; simp at hi; omega)⟩
            exact ⟨none, 0, rfl, list_nil _ none, by simp [fp]⟩
          · by_cases x6 : x.kind = 6
            · have HRR := hid (show doR (absW X) x = { res0 with list := openL (absW X) x.name x.now } by unfold doR; rw [if_neg x1, if_neg x2, if_neg x3, if_neg x4, if_neg x5, if_pos x6])
              have HUU := hid (show doU (absW X) x = absW X by unfold doU; rw [if_neg x1, if_neg x2, if_neg x3, if_neg x5, if_neg (by omega)])
              rw [HRR.out, HUU.out]
              have q1 : (x.kind == 1) = false := by rw [beq_eq_false_iff_ne]; exact x1
              have q2 : (x.kind == 2) = false := by rw [beq_eq_false_iff_ne]; exact x2
              have q3 : (x.kind == 3) = false := by rw [beq_eq_false_iff_ne]; exact x3
              have q4 : (x.kind == 4) = false := by rw [beq_eq_false_iff_ne]; exact x4
              have q5 : (x.kind == 5) = false := by rw [beq_eq_false_iff_ne]; exact x5
              have q6 : (x.kind == 6) = true := by rw [beq_iff_eq]; exact x6
              clear x1 x2 x3 x4 x5 x6
              have HC := hid (open_any HW2 ⟨x.name.toArray⟩ x.now)
              clear HW2 HL2
              go_enter Try.func14, Try.ntmps14
              go_wp2_with fail
              rw [← HW0.out]
              refine HC.out.mono ?_
              rintro e w3 ⟨a3, c3, rfl, st3, hn3, k3⟩
              have hL : Left w2 w3 wb mb X (absW X) := Left.same HH2.out k3
              obtain ⟨a0, a1, a2, a3', a4, f0, f1, f2, f3, f4⟩ := zero_cells (hL.kept.at HB4.out HN4.out)
              obtain ⟨b0, b1, b2, b3, b4, g0, g1, g2, g3, g4⟩ := zero_cells (hL.kept.at HB5.out HN5.out)
              go_wp2_with fail
              refine bodyPost_ret (v := .agg #[.string ⟨#[]⟩, .string ⟨#[]⟩, .slice a3 (openL (absW X) x.name x.now).length c3, .int .i64 0, .int .i64 0]) (by simp [results, Try.results14, go_sem, a0, a1, a2, a3', a4]) rfl ⟨?_, Left.wrap HH.out HK2.out hL (((((((Kept.refl [w.heap.size + 1, w.heap.size + 1 + 1] w3).setCell (.inl (by simp)) _).setCell (.inl (by simp)) _).setCell (.inl (by simp)) _).setCell (.inl (by simp)) _).setCell (.inl (by simp)) _).setCell (.inl (by simp)) _) (fun i hi => by have := HZ2.out; simp at hi; omega)⟩
              exact ⟨a3, c3, rfl, SeqAt.kept st3 CEnc.lasts (((((((Kept.refl [w.heap.size + 1, w.heap.size + 1 + 1] w3).setCell (.inl (by simp)) _).setCell (.inl (by simp)) _).setCell (.inl (by simp)) _).setCell (.inl (by simp)) _).setCell (.inl (by simp)) _).setCell (.inl (by simp)) _) (fun _ y hy hm => by subst hy; have h1 := hn3 y.block (by simp [fp]); have h2 := HZ2.out; simp at hm; omega), fun i hi => by have h1 := hn3 i hi; have h2 := HZ2.out; omega⟩
            · by_cases x7 : x.kind = 7
              · have HRR := hid (show doR (absW X) x = { res0 with n := cancN (absW X) x.user } by unfold doR; rw [if_neg x1, if_neg x2, if_neg x3, if_neg x4, if_neg x5, if_neg x6, if_pos x7])
                have HUU := hid (show doU (absW X) x = cancU (absW X) x.user by unfold doU; rw [if_neg x1, if_neg x2, if_neg x3, if_neg x5, if_pos x7])
                rw [HRR.out, HUU.out]
                have q1 : (x.kind == 1) = false := by rw [beq_eq_false_iff_ne]; exact x1
                have q2 : (x.kind == 2) = false := by rw [beq_eq_false_iff_ne]; exact x2
                have q3 : (x.kind == 3) = false := by rw [beq_eq_false_iff_ne]; exact x3
                have q4 : (x.kind == 4) = false := by rw [beq_eq_false_iff_ne]; exact x4
                have q5 : (x.kind == 5) = false := by rw [beq_eq_false_iff_ne]; exact x5
                have q6 : (x.kind == 6) = false := by rw [beq_eq_false_iff_ne]; exact x6
                have q7 : (x.kind == 7) = true := by rw [beq_iff_eq]; exact x7
                clear x1 x2 x3 x4 x5 x6 x7
                have HC := hid (cancel_any HW2 ⟨x.user.toArray⟩)
                clear HW2 HL2
                go_enter Try.func14, Try.ntmps14
                go_wp2_with fail
                rw [← HW0.out]
                refine HC.out.mono ?_
                rintro e w3 ⟨rfl, hL⟩
                obtain ⟨a0, a1, a2, a3', a4, f0, f1, f2, f3, f4⟩ := zero_cells (hL.kept.at HB4.out HN4.out)
                obtain ⟨b0, b1, b2, b3, b4, g0, g1, g2, g3, g4⟩ := zero_cells (hL.kept.at HB5.out HN5.out)
                go_wp2_with fail
                refine bodyPost_ret (v := .agg #[.string ⟨#[]⟩, .string ⟨#[]⟩, .slice none 0 0, .int .i64 (cancN (absW X) x.user), .int .i64 0]) (by simp [results, Try.results14, go_sem, a0, a1, a2, a3', a4]) rfl ⟨?_, Left.wrap HH.out HK2.out hL (((((((Kept.refl [w.heap.size + 1, w.heap.size + 1 + 1] w3).setCell (.inl (by simp)) _).setCell (.inl (by simp)) _).setCell (.inl (by simp)) _).setCell (.inl (by simp)) _).setCell (.inl (by simp)) _).setCell (.inl (by simp)) _) (fun i hi => by have := HZ2.out; simp at hi; omega)⟩
                exact ⟨none, 0, rfl, list_nil _ none, by simp [fp]⟩
              · have HRR := hid (show doR (absW X) x = res0 by unfold doR; rw [if_neg x1, if_neg x2, if_neg x3, if_neg x4, if_neg x5, if_neg x6, if_neg x7])
                have HUU := hid (show doU (absW X) x = absW X by unfold doU; rw [if_neg x1, if_neg x2, if_neg x3, if_neg x5, if_neg x7])
                rw [HRR.out, HUU.out]
                have q1 : (x.kind == 1) = false := by rw [beq_eq_false_iff_ne]; exact x1
                have q2 : (x.kind == 2) = false := by rw [beq_eq_false_iff_ne]; exact x2
                have q3 : (x.kind == 3) = false := by rw [beq_eq_false_iff_ne]; exact x3
                have q4 : (x.kind == 4) = false := by rw [beq_eq_false_iff_ne]; exact x4
                have q5 : (x.kind == 5) = false := by rw [beq_eq_false_iff_ne]; exact x5
                have q6 : (x.kind == 6) = false := by rw [beq_eq_false_iff_ne]; exact x6
                have q7 : (x.kind == 7) = false := by rw [beq_eq_false_iff_ne]; exact x7
                clear x1 x2 x3 x4 x5 x6 x7
                clear HW2 HL2
                go_enter Try.func14, Try.ntmps14
                go_wp2_with fail
                rw [← HW0.out]
                refine bodyPost_ret (v := .agg #[.string ⟨#[]⟩, .string ⟨#[]⟩, .slice none 0 0, .int .i64 0, .int .i64 0]) (by have hz := zero_cells HB4.out; simp [results, Try.results14, go_sem, hz]) rfl ⟨?_, Left.same HH.out HK2.out⟩
                exact ⟨none, 0, rfl, list_nil _ none, by simp [fp]⟩

end Go.Proofs.Ytionejokdfgmhaa
