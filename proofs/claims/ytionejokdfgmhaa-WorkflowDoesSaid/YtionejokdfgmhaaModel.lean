/- model: an operation of the reference. Printed by gen_model.py. -/
import Derived.Test.YtionejokdfgmhaaRef7
import Derived.Test.YtionejokdfgmhaaDo
namespace Go.Proofs.Ytionejokdfgmhaa
open Go.RowKit Go.Maps

theorem RLeft.wrap {S : List Nat} {w w2 w3 w4 : World} {qb : Nat} {ra : Option Addr} {rc : Nat} {Y : List Ent} {U' : Wfs} (h : RefAt w qb ra rc Y) (k2 : Kept [] w w2) (hL : RLeft w2 w3 qb ra Y U') (k : Kept S w3 w4) (hS : ∀ i ∈ S, w.heap.size ≤ i ∧ i < w2.heap.size) : RLeft w w4 qb ra Y U' := by
  obtain ⟨a', c', Y', h', e, k3, hd⟩ := hL
  have hsz := k2.size
  refine ⟨a', c', Y', h'.kept k (fun i hi hs => ?_), e, ?_, fun i hi => (hd i hi).imp id (fun e => by omega)⟩
  · have h1 := hS i hs
    rcases hd i hi with e | e
    · have := h.lt i e; omega
    · omega
  · exact ((k2.mono (T := qb :: fp ra) (by simp)).step k3 (fun i hi => hi)).trans k (fun i hi => .inr (hS i hi).1)
theorem RLeft.kept {w w' : World} {qb : Nat} {ra : Option Addr} {Y : List Ent} {U' : Wfs} (h : RLeft w w' qb ra Y U') : Kept (rdom qb ra Y) w w' := by
  obtain ⟨_, _, _, _, _, k, _⟩ := h
  exact k.mono (fun i hi => .inl (rdom_mem.2 ((List.mem_cons.1 hi).elim .inl (fun e => .inr (.inl e)))))

set_option maxHeartbeats 8000000 in
set_option maxRecDepth 100000 in
theorem model_any {w : World} {qb : Nat} {ra : Option Addr} {rc : Nat} {Y : List Ent} (h : RefAt w qb ra rc Y) (x : OpD) (hs : Small x) (hl : OpLists w x) :
    Calls Try.prog 15 #[.pointer (some ⟨qb, 0, none⟩), .agg #[.int .i64 x.kind, .string ⟨x.id.toArray⟩, .string ⟨x.name.toArray⟩, .string ⟨x.user.toArray⟩, .string ⟨x.by_.toArray⟩, .slice x.sa x.steps.length x.sc, .slice x.ga x.groups.length x.gc, .int .i64 x.until_, .int .i64 x.now]] w fun e w' => DoRes w w' e (doR (absR Y) x) ∧ RLeft w w' qb ra Y (doU (absR Y) x) := by
  have k2 := (((Kept.refl [] w).alloc (.cells #[.int .i64 x.kind, .string ⟨x.id.toArray⟩, .string ⟨x.name.toArray⟩, .string ⟨x.user.toArray⟩, .string ⟨x.by_.toArray⟩, .slice x.sa x.steps.length x.sc, .slice x.ga x.groups.length x.gc, .int .i64 x.until_, .int .i64 x.now] 37 (0, 0))).alloc (.cells #[.string ⟨#[]⟩, .string ⟨#[]⟩, .slice none 0 0, .int .i64 0, .int .i64 0] 33 (0, 0))).alloc (.cells #[.string ⟨#[]⟩, .string ⟨#[]⟩, .slice none 0 0, .int .i64 0, .int .i64 0] 33 (0, 0))
  have hb4 : (((w.alloc (.cells #[.int .i64 x.kind, .string ⟨x.id.toArray⟩, .string ⟨x.name.toArray⟩, .string ⟨x.user.toArray⟩, .string ⟨x.by_.toArray⟩, .slice x.sa x.steps.length x.sc, .slice x.ga x.groups.length x.gc, .int .i64 x.until_, .int .i64 x.now] 37 (0, 0))).alloc (.cells #[.string ⟨#[]⟩, .string ⟨#[]⟩, .slice none 0 0, .int .i64 0, .int .i64 0] 33 (0, 0))).alloc (.cells #[.string ⟨#[]⟩, .string ⟨#[]⟩, .slice none 0 0, .int .i64 0, .int .i64 0] 33 (0, 0))).heap[w.heap.size + 1]? = some (.cells #[.string ⟨#[]⟩, .string ⟨#[]⟩, .slice none 0 0, .int .i64 0, .int .i64 0] 33 (0, 0)) := (Below.heap_alloc _ _ _ (by simp)).trans (by have := heap_alloc_new (w.alloc (.cells #[.int .i64 x.kind, .string ⟨x.id.toArray⟩, .string ⟨x.name.toArray⟩, .string ⟨x.user.toArray⟩, .string ⟨x.by_.toArray⟩, .slice x.sa x.steps.length x.sc, .slice x.ga x.groups.length x.gc, .int .i64 x.until_, .int .i64 x.now] 37 (0, 0))) (.cells #[.string ⟨#[]⟩, .string ⟨#[]⟩, .slice none 0 0, .int .i64 0, .int .i64 0] 33 (0, 0)); simpa using this)
  have hb5 : (((w.alloc (.cells #[.int .i64 x.kind, .string ⟨x.id.toArray⟩, .string ⟨x.name.toArray⟩, .string ⟨x.user.toArray⟩, .string ⟨x.by_.toArray⟩, .slice x.sa x.steps.length x.sc, .slice x.ga x.groups.length x.gc, .int .i64 x.until_, .int .i64 x.now] 37 (0, 0))).alloc (.cells #[.string ⟨#[]⟩, .string ⟨#[]⟩, .slice none 0 0, .int .i64 0, .int .i64 0] 33 (0, 0))).alloc (.cells #[.string ⟨#[]⟩, .string ⟨#[]⟩, .slice none 0 0, .int .i64 0, .int .i64 0] 33 (0, 0))).heap[w.heap.size + 2]? = some (.cells #[.string ⟨#[]⟩, .string ⟨#[]⟩, .slice none 0 0, .int .i64 0, .int .i64 0] 33 (0, 0)) := by have := heap_alloc_new ((w.alloc (.cells #[.int .i64 x.kind, .string ⟨x.id.toArray⟩, .string ⟨x.name.toArray⟩, .string ⟨x.user.toArray⟩, .string ⟨x.by_.toArray⟩, .slice x.sa x.steps.length x.sc, .slice x.ga x.groups.length x.gc, .int .i64 x.until_, .int .i64 x.now] 37 (0, 0))).alloc (.cells #[.string ⟨#[]⟩, .string ⟨#[]⟩, .slice none 0 0, .int .i64 0, .int .i64 0] 33 (0, 0))) (.cells #[.string ⟨#[]⟩, .string ⟨#[]⟩, .slice none 0 0, .int .i64 0, .int .i64 0] 33 (0, 0)); simpa using this
  have hz2 : (((w.alloc (.cells #[.int .i64 x.kind, .string ⟨x.id.toArray⟩, .string ⟨x.name.toArray⟩, .string ⟨x.user.toArray⟩, .string ⟨x.by_.toArray⟩, .slice x.sa x.steps.length x.sc, .slice x.ga x.groups.length x.gc, .int .i64 x.until_, .int .i64 x.now] 37 (0, 0))).alloc (.cells #[.string ⟨#[]⟩, .string ⟨#[]⟩, .slice none 0 0, .int .i64 0, .int .i64 0] 33 (0, 0))).alloc (.cells #[.string ⟨#[]⟩, .string ⟨#[]⟩, .slice none 0 0, .int .i64 0, .int .i64 0] 33 (0, 0))).heap.size = w.heap.size + 3 := by simp
  obtain ⟨w2, HW0⟩ : ∃ w2, Hid (w2 = ((w.alloc (.cells #[.int .i64 x.kind, .string ⟨x.id.toArray⟩, .string ⟨x.name.toArray⟩, .string ⟨x.user.toArray⟩, .string ⟨x.by_.toArray⟩, .slice x.sa x.steps.length x.sc, .slice x.ga x.groups.length x.gc, .int .i64 x.until_, .int .i64 x.now] 37 (0, 0))).alloc (.cells #[.string ⟨#[]⟩, .string ⟨#[]⟩, .slice none 0 0, .int .i64 0, .int .i64 0] 33 (0, 0))).alloc (.cells #[.string ⟨#[]⟩, .string ⟨#[]⟩, .slice none 0 0, .int .i64 0, .int .i64 0] 33 (0, 0))) := ⟨_, hid rfl⟩
  rw [← HW0.out] at k2 hb4 hb5 hz2
  have HW2 := h.keptN k2
  have HH2 := hid HW2
  have HL2 := hl.keptN k2
  have HB4 := hid hb4
  have HB5 := hid hb5
  have HK2 := hid k2
  have HH := hid h
  have HN4 := hid (show w.heap.size + 1 ∉ rdom qb ra Y from fun hi => by have := h.lt _ hi; omega)
  have HN5 := hid (show w.heap.size + 2 ∉ rdom qb ra Y from fun hi => by have := h.lt _ hi; omega)
  have HZ2 := hid hz2
  have HR := hid (show doR (absR Y) x = doR (absR Y) x from rfl)
  clear h hl k2 hb4 hb5 hz2
  by_cases x1 : x.kind = 1
  · have HRR := hid (show doR (absR Y) x = { res0 with e := startC (absR Y) x.id x.name x.user x.by_ x.steps x.until_ x.now } by unfold doR; rw [if_pos x1])
    have HUU := hid (show doU (absR Y) x = startU (absR Y) x.id x.name x.user x.by_ x.steps x.until_ x.now by unfold doU; rw [if_pos x1])
    rw [HRR.out, HUU.out]
    have q1 : (x.kind == 1) = true := by rw [beq_iff_eq]; exact x1
    clear x1
    have HC := hid (rstart_any HW2 ⟨x.id.toArray⟩ ⟨x.name.toArray⟩ ⟨x.user.toArray⟩ ⟨x.by_.toArray⟩ hs.ids.1 hs.ids.2.1 hs.ids.2.2.1 hs.ids.2.2.2 (sc := x.sc) HL2.1 hs.short x.until_ x.now)
    clear HW2 HL2
    go_enter Try.func15, Try.ntmps15
    go_wp2_with fail
    rw [← HW0.out]
    refine HC.out.mono ?_
    rintro e w3 ⟨rfl, hL⟩
    obtain ⟨a0, a1, a2, a3', a4, f0, f1, f2, f3, f4⟩ := zero_cells (hL.kept.at HB4.out HN4.out)
    obtain ⟨b0, b1, b2, b3, b4, g0, g1, g2, g3, g4⟩ := zero_cells (hL.kept.at HB5.out HN5.out)
    go_wp2_with fail
    refine bodyPost_ret (v := .agg #[.string ⟨#[]⟩, .string ⟨#[]⟩, .slice none 0 0, .int .i64 0, .int .i64 (startC (absR Y) x.id x.name x.user x.by_ x.steps x.until_ x.now)]) (by simp [results, Try.results15, go_sem, a0, a1, a2, a3', a4]) rfl ⟨?_, RLeft.wrap HH.out HK2.out hL (((((((Kept.refl [w.heap.size + 1, w.heap.size + 1 + 1] w3).setCell (.inl (by simp)) _).setCell (.inl (by simp)) _).setCell (.inl (by simp)) _).setCell (.inl (by simp)) _).setCell (.inl (by simp)) _).setCell (.inl (by simp)) _) (fun i hi => by have := HZ2.out; simp at hi; omega)⟩
    exact ⟨none, 0, rfl, list_nil _ none, by simp [fp]⟩
  · by_cases x2 : x.kind = 2
    · have HRR := hid (show doR (absR Y) x = { res0 with e := apprC (absR Y) x.id x.by_ x.groups x.now } by unfold doR; rw [if_neg x1, if_pos x2])
      have HUU := hid (show doU (absR Y) x = apprU (absR Y) x.id x.by_ x.groups x.now by unfold doU; rw [if_neg x1, if_pos x2])
      rw [HRR.out, HUU.out]
      have q1 : (x.kind == 1) = false := by rw [beq_eq_false_iff_ne]; exact x1
      have q2 : (x.kind == 2) = true := by rw [beq_iff_eq]; exact x2
      clear x1 x2
      have HC := hid (rapprove_any HW2 ⟨x.id.toArray⟩ ⟨x.by_.toArray⟩ (gc := x.gc) HL2.2 x.now)
      clear HW2 HL2
      go_enter Try.func15, Try.ntmps15
      go_wp2_with fail
      rw [← HW0.out]
      refine HC.out.mono ?_
      rintro e w3 ⟨rfl, hL⟩
      obtain ⟨a0, a1, a2, a3', a4, f0, f1, f2, f3, f4⟩ := zero_cells (hL.kept.at HB4.out HN4.out)
      obtain ⟨b0, b1, b2, b3, b4, g0, g1, g2, g3, g4⟩ := zero_cells (hL.kept.at HB5.out HN5.out)
      go_wp2_with fail
      refine bodyPost_ret (v := .agg #[.string ⟨#[]⟩, .string ⟨#[]⟩, .slice none 0 0, .int .i64 0, .int .i64 (apprC (absR Y) x.id x.by_ x.groups x.now)]) (by simp [results, Try.results15, go_sem, a0, a1, a2, a3', a4]) rfl ⟨?_, RLeft.wrap HH.out HK2.out hL (((((((Kept.refl [w.heap.size + 1, w.heap.size + 1 + 1] w3).setCell (.inl (by simp)) _).setCell (.inl (by simp)) _).setCell (.inl (by simp)) _).setCell (.inl (by simp)) _).setCell (.inl (by simp)) _).setCell (.inl (by simp)) _) (fun i hi => by have := HZ2.out; simp at hi; omega)⟩
      exact ⟨none, 0, rfl, list_nil _ none, by simp [fp]⟩
    · by_cases x3 : x.kind = 3
      · have HRR := hid (show doR (absR Y) x = { res0 with e := rejC (absR Y) x.id x.groups x.now } by unfold doR; rw [if_neg x1, if_neg x2, if_pos x3])
        have HUU := hid (show doU (absR Y) x = rejU (absR Y) x.id x.groups x.now by unfold doU; rw [if_neg x1, if_neg x2, if_pos x3])
        rw [HRR.out, HUU.out]
        have q1 : (x.kind == 1) = false := by rw [beq_eq_false_iff_ne]; exact x1
        have q2 : (x.kind == 2) = false := by rw [beq_eq_false_iff_ne]; exact x2
        have q3 : (x.kind == 3) = true := by rw [beq_iff_eq]; exact x3
        clear x1 x2 x3
        have HC := hid (rreject_any HW2 ⟨x.id.toArray⟩ ⟨x.by_.toArray⟩ (gc := x.gc) HL2.2 x.now)
        clear HW2 HL2
        go_enter Try.func15, Try.ntmps15
        go_wp2_with fail
        rw [← HW0.out]
        refine HC.out.mono ?_
        rintro e w3 ⟨rfl, hL⟩
        obtain ⟨a0, a1, a2, a3', a4, f0, f1, f2, f3, f4⟩ := zero_cells (hL.kept.at HB4.out HN4.out)
        obtain ⟨b0, b1, b2, b3, b4, g0, g1, g2, g3, g4⟩ := zero_cells (hL.kept.at HB5.out HN5.out)
        go_wp2_with fail
        refine bodyPost_ret (v := .agg #[.string ⟨#[]⟩, .string ⟨#[]⟩, .slice none 0 0, .int .i64 0, .int .i64 (rejC (absR Y) x.id x.groups x.now)]) (by simp [results, Try.results15, go_sem, a0, a1, a2, a3', a4]) rfl ⟨?_, RLeft.wrap HH.out HK2.out hL (((((((Kept.refl [w.heap.size + 1, w.heap.size + 1 + 1] w3).setCell (.inl (by simp)) _).setCell (.inl (by simp)) _).setCell (.inl (by simp)) _).setCell (.inl (by simp)) _).setCell (.inl (by simp)) _).setCell (.inl (by simp)) _) (fun i hi => by have := HZ2.out; simp at hi; omega)⟩
        exact ⟨none, 0, rfl, list_nil _ none, by simp [fp]⟩
      · by_cases x4 : x.kind = 4
        · have HRR := hid (show doR (absR Y) x = { res0 with a := (stR (absR Y) x.id x.now).1, n := ((stR (absR Y) x.id x.now).2 : Nat) } by unfold doR; rw [if_neg x1, if_neg x2, if_neg x3, if_pos x4])
          have HUU := hid (show doU (absR Y) x = absR Y by unfold doU; rw [if_neg x1, if_neg x2, if_neg x3, if_neg (by omega), if_neg (by omega)])
          rw [HRR.out, HUU.out]
          have q1 : (x.kind == 1) = false := by rw [beq_eq_false_iff_ne]; exact x1
          have q2 : (x.kind == 2) = false := by rw [beq_eq_false_iff_ne]; exact x2
          have q3 : (x.kind == 3) = false := by rw [beq_eq_false_iff_ne]; exact x3
          have q4 : (x.kind == 4) = true := by rw [beq_iff_eq]; exact x4
          clear x1 x2 x3 x4
          have HC := hid (rstate_any HW2 ⟨x.id.toArray⟩ x.now)
          try unfold sV at HC
          clear HW2 HL2
          go_enter Try.func15, Try.ntmps15
          go_wp2_with fail
          rw [← HW0.out]
          refine HC.out.mono ?_
          rintro e w3 ⟨rfl, hd⟩
          have hL : RLeft w2 w3 qb ra Y (absR Y) := RLeft.same HH2.out hd
          obtain ⟨a0, a1, a2, a3', a4, f0, f1, f2, f3, f4⟩ := zero_cells (hL.kept.at HB4.out HN4.out)
          obtain ⟨b0, b1, b2, b3, b4, g0, g1, g2, g3, g4⟩ := zero_cells (hL.kept.at HB5.out HN5.out)
          go_wp2_with fail
          refine bodyPost_ret (v := .agg #[.string ⟨(stR (absR Y) x.id x.now).1.toArray⟩, .string ⟨#[]⟩, .slice none 0 0, .int .i64 ((stR (absR Y) x.id x.now).2 : Nat), .int .i64 0]) (by simp [results, Try.results15, go_sem, a0, a1, a2, a3', a4]) rfl ⟨?_, RLeft.wrap HH.out HK2.out hL ((((((((Kept.refl [w.heap.size + 1, w.heap.size + 1 + 1] w3).setCell (.inl (by simp)) _).setCell (.inl (by simp)) _).setCell (.inl (by simp)) _).setCell (.inl (by simp)) _).setCell (.inl (by simp)) _).setCell (.inl (by simp)) _).setCell (.inl (by simp)) _) (fun i hi => by have := HZ2.out; simp at hi; omega)⟩
          exact ⟨none, 0, rfl, list_nil _ none, by simp [fp]⟩
        · by_cases x5 : x.kind = 5
          · have HRR := hid (show doR (absR Y) x = { res0 with a := (takeR (absR Y) x.id x.now).1, b := (takeR (absR Y) x.id x.now).2.1, e := (takeR (absR Y) x.id x.now).2.2 } by unfold doR; rw [if_neg x1, if_neg x2, if_neg x3, if_neg x4, if_pos x5])
            have HUU := hid (show doU (absR Y) x = takeU (absR Y) x.id x.now by unfold doU; rw [if_neg x1, if_neg x2, if_neg x3, if_pos x5])
            rw [HRR.out, HUU.out]
            have q1 : (x.kind == 1) = false := by rw [beq_eq_false_iff_ne]; exact x1
            have q2 : (x.kind == 2) = false := by rw [beq_eq_false_iff_ne]; exact x2
            have q3 : (x.kind == 3) = false := by rw [beq_eq_false_iff_ne]; exact x3
            have q4 : (x.kind == 4) = false := by rw [beq_eq_false_iff_ne]; exact x4
            have q5 : (x.kind == 5) = true := by rw [beq_iff_eq]; exact x5
            clear x1 x2 x3 x4 x5
            have HC := hid (rtake_any HW2 ⟨x.id.toArray⟩ x.now)
            try unfold Took sV at HC
            clear HW2 HL2
            go_enter Try.func15, Try.ntmps15
            go_wp2_with fail
            rw [← HW0.out]
            refine HC.out.mono ?_
            rintro e w3 ⟨rfl, hL⟩
            obtain ⟨a0, a1, a2, a3', a4, f0, f1, f2, f3, f4⟩ := zero_cells (hL.kept.at HB4.out HN4.out)
            obtain ⟨b0, b1, b2, b3, b4, g0, g1, g2, g3, g4⟩ := zero_cells (hL.kept.at HB5.out HN5.out)
            go_wp2_with fail
            refine bodyPost_ret (v := .agg #[.string ⟨(takeR (absR Y) x.id x.now).1.toArray⟩, .string ⟨(takeR (absR Y) x.id x.now).2.1.toArray⟩, .slice none 0 0, .int .i64 0, .int .i64 (takeR (absR Y) x.id x.now).2.2]) (by simp [results, Try.results15, go_sem, a0, a1, a2, a3', a4]) rfl ⟨?_, RLeft.wrap HH.out HK2.out hL (((((((((Kept.refl [w.heap.size + 1, w.heap.size + 1 + 1] w3).setCell (.inl (by simp)) _).setCell (.inl (by simp)) _).setCell (.inl (by simp)) _).setCell (.inl (by simp)) _).setCell (.inl (by simp)) _).setCell (.inl (by simp)) _).setCell (.inl (by simp)) _).setCell (.inl (by simp)) _) (fun i hi => by have := HZ2.out; simp at hi; omega)⟩
            exact ⟨none, 0, rfl, list_nil _ none, by simp [fp]⟩
          · by_cases x6 : x.kind = 6
            · have HRR := hid (show doR (absR Y) x = { res0 with list := openL (absR Y) x.name x.now } by unfold doR; rw [if_neg x1, if_neg x2, if_neg x3, if_neg x4, if_neg x5, if_pos x6])
              have HUU := hid (show doU (absR Y) x = absR Y by unfold doU; rw [if_neg x1, if_neg x2, if_neg x3, if_neg x5, if_neg (by omega)])
              rw [HRR.out, HUU.out]
              have q1 : (x.kind == 1) = false := by rw [beq_eq_false_iff_ne]; exact x1
              have q2 : (x.kind == 2) = false := by rw [beq_eq_false_iff_ne]; exact x2
              have q3 : (x.kind == 3) = false := by rw [beq_eq_false_iff_ne]; exact x3
              have q4 : (x.kind == 4) = false := by rw [beq_eq_false_iff_ne]; exact x4
              have q5 : (x.kind == 5) = false := by rw [beq_eq_false_iff_ne]; exact x5
              have q6 : (x.kind == 6) = true := by rw [beq_iff_eq]; exact x6
              clear x1 x2 x3 x4 x5 x6
              have HC := hid (ropenl_any HW2 ⟨x.name.toArray⟩ x.now)
              clear HW2 HL2
              go_enter Try.func15, Try.ntmps15
              go_wp2_with fail
              rw [← HW0.out]
              refine HC.out.mono ?_
              rintro e w3 ⟨a3, c3, rfl, st3, hn3, k3⟩
              have hL : RLeft w2 w3 qb ra Y (absR Y) := RLeft.same HH2.out k3
              obtain ⟨a0, a1, a2, a3', a4, f0, f1, f2, f3, f4⟩ := zero_cells (hL.kept.at HB4.out HN4.out)
              obtain ⟨b0, b1, b2, b3, b4, g0, g1, g2, g3, g4⟩ := zero_cells (hL.kept.at HB5.out HN5.out)
              go_wp2_with fail
              refine bodyPost_ret (v := .agg #[.string ⟨#[]⟩, .string ⟨#[]⟩, .slice a3 (openL (absR Y) x.name x.now).length c3, .int .i64 0, .int .i64 0]) (by simp [results, Try.results15, go_sem, a0, a1, a2, a3', a4]) rfl ⟨?_, RLeft.wrap HH.out HK2.out hL (((((((Kept.refl [w.heap.size + 1, w.heap.size + 1 + 1] w3).setCell (.inl (by simp)) _).setCell (.inl (by simp)) _).setCell (.inl (by simp)) _).setCell (.inl (by simp)) _).setCell (.inl (by simp)) _).setCell (.inl (by simp)) _) (fun i hi => by have := HZ2.out; simp at hi; omega)⟩
              exact ⟨a3, c3, rfl, SeqAt.kept st3 CEnc.lasts (((((((Kept.refl [w.heap.size + 1, w.heap.size + 1 + 1] w3).setCell (.inl (by simp)) _).setCell (.inl (by simp)) _).setCell (.inl (by simp)) _).setCell (.inl (by simp)) _).setCell (.inl (by simp)) _).setCell (.inl (by simp)) _) (fun _ y hy hm => by subst hy; have h1 := hn3 y.block (by simp [fp]); have h2 := HZ2.out; simp at hm; omega), fun i hi => by have h1 := hn3 i hi; have h2 := HZ2.out; omega⟩
            · by_cases x7 : x.kind = 7
              · have HRR := hid (show doR (absR Y) x = { res0 with n := cancN (absR Y) x.user } by unfold doR; rw [if_neg x1, if_neg x2, if_neg x3, if_neg x4, if_neg x5, if_neg x6, if_pos x7])
                have HUU := hid (show doU (absR Y) x = cancU (absR Y) x.user by unfold doU; rw [if_neg x1, if_neg x2, if_neg x3, if_neg x5, if_pos x7])
                rw [HRR.out, HUU.out]
                have q1 : (x.kind == 1) = false := by rw [beq_eq_false_iff_ne]; exact x1
                have q2 : (x.kind == 2) = false := by rw [beq_eq_false_iff_ne]; exact x2
                have q3 : (x.kind == 3) = false := by rw [beq_eq_false_iff_ne]; exact x3
                have q4 : (x.kind == 4) = false := by rw [beq_eq_false_iff_ne]; exact x4
                have q5 : (x.kind == 5) = false := by rw [beq_eq_false_iff_ne]; exact x5
                have q6 : (x.kind == 6) = false := by rw [beq_eq_false_iff_ne]; exact x6
                have q7 : (x.kind == 7) = true := by rw [beq_iff_eq]; exact x7
                clear x1 x2 x3 x4 x5 x6 x7
                have HC := hid (rcancel_any HW2 ⟨x.user.toArray⟩)
                clear HW2 HL2
                go_enter Try.func15, Try.ntmps15
                go_wp2_with fail
                rw [← HW0.out]
                refine HC.out.mono ?_
                rintro e w3 ⟨rfl, hL⟩
                obtain ⟨a0, a1, a2, a3', a4, f0, f1, f2, f3, f4⟩ := zero_cells (hL.kept.at HB4.out HN4.out)
                obtain ⟨b0, b1, b2, b3, b4, g0, g1, g2, g3, g4⟩ := zero_cells (hL.kept.at HB5.out HN5.out)
                go_wp2_with fail
                refine bodyPost_ret (v := .agg #[.string ⟨#[]⟩, .string ⟨#[]⟩, .slice none 0 0, .int .i64 (cancN (absR Y) x.user), .int .i64 0]) (by simp [results, Try.results15, go_sem, a0, a1, a2, a3', a4]) rfl ⟨?_, RLeft.wrap HH.out HK2.out hL (((((((Kept.refl [w.heap.size + 1, w.heap.size + 1 + 1] w3).setCell (.inl (by simp)) _).setCell (.inl (by simp)) _).setCell (.inl (by simp)) _).setCell (.inl (by simp)) _).setCell (.inl (by simp)) _).setCell (.inl (by simp)) _) (fun i hi => by have := HZ2.out; simp at hi; omega)⟩
                exact ⟨none, 0, rfl, list_nil _ none, by simp [fp]⟩
              · have HRR := hid (show doR (absR Y) x = res0 by unfold doR; rw [if_neg x1, if_neg x2, if_neg x3, if_neg x4, if_neg x5, if_neg x6, if_neg x7])
                have HUU := hid (show doU (absR Y) x = absR Y by unfold doU; rw [if_neg x1, if_neg x2, if_neg x3, if_neg x5, if_neg x7])
                rw [HRR.out, HUU.out]
                have q1 : (x.kind == 1) = false := by rw [beq_eq_false_iff_ne]; exact x1
                have q2 : (x.kind == 2) = false := by rw [beq_eq_false_iff_ne]; exact x2
                have q3 : (x.kind == 3) = false := by rw [beq_eq_false_iff_ne]; exact x3
                have q4 : (x.kind == 4) = false := by rw [beq_eq_false_iff_ne]; exact x4
                have q5 : (x.kind == 5) = false := by rw [beq_eq_false_iff_ne]; exact x5
                have q6 : (x.kind == 6) = false := by rw [beq_eq_false_iff_ne]; exact x6
                have q7 : (x.kind == 7) = false := by rw [beq_eq_false_iff_ne]; exact x7
                clear x1 x2 x3 x4 x5 x6 x7
                clear HW2 HL2
                go_enter Try.func15, Try.ntmps15
                go_wp2_with fail
                rw [← HW0.out]
                refine bodyPost_ret (v := .agg #[.string ⟨#[]⟩, .string ⟨#[]⟩, .slice none 0 0, .int .i64 0, .int .i64 0]) (by have hz := zero_cells HB4.out; simp [results, Try.results15, go_sem, hz]) rfl ⟨?_, RLeft.same HH.out HK2.out⟩
                exact ⟨none, 0, rfl, list_nil _ none, by simp [fp]⟩

end Go.Proofs.Ytionejokdfgmhaa
