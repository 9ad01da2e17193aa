/- Get of the program. -/
import Derived.Test.YtakccoiecmibcaaSes5
namespace Go.Proofs.Ytakccoiecmibcaa
open Go.RowKit Go.Maps

def zs : Sess := ⟨[], [], [], 0, 0, 0, [], [], false⟩
theorem kept9 (b : Nat) (w : World) (v0 v1 v2 v3 v4 v5 v6 v7 v8 : Value) : Kept [b] w (((((((((w.setCell ⟨b, 0, none⟩ v0).setCell ⟨b, 1, none⟩ v1).setCell ⟨b, 2, none⟩ v2).setCell ⟨b, 3, none⟩ v3).setCell ⟨b, 4, none⟩ v4).setCell ⟨b, 5, none⟩ v5).setCell ⟨b, 6, none⟩ v6).setCell ⟨b, 7, none⟩ v7).setCell ⟨b, 8, none⟩ v8) := ((((((((((Kept.refl [b] w).setCell (.inl (by simp)) _).setCell (.inl (by simp)) _).setCell (.inl (by simp)) _).setCell (.inl (by simp)) _).setCell (.inl (by simp)) _).setCell (.inl (by simp)) _).setCell (.inl (by simp)) _).setCell (.inl (by simp)) _).setCell (.inl (by simp)) _)
/-- What Get returns. -/
def getR (U : Sss) (id : Str) (now : Int) : Str × Sess := if findC U id now = 0 then (match alook U id with | some x => (id, x) | none => ([], zs)) else ([], zs)
abbrev sessA (id : Str) (x : Sess) (pa : Option Addr) (pc : Nat) (ca : Option Addr) (cc : Nat) : Value := .agg #[.string ⟨id.toArray⟩, .string ⟨x.user.toArray⟩, .string ⟨x.tenant.toArray⟩, .string ⟨x.device.toArray⟩, .int .i64 x.started, .int .i64 x.seen, .int .i64 x.until_, .slice pa x.proofs.length pc, .slice ca x.clients.length cc]
/-- A session is handed back, its lists in new blocks. -/
def Got (w w' : World) (e : Ending) (r : Str × Sess) (c : Int) : Prop := ∃ pa pc ca cc, e = .returned (.tuple #[sessA r.1 r.2 pa pc ca cc, .int .i64 c]) ∧ PrfsAt w' pa r.2.proofs ∧ StrsAt w' ca r.2.clients ∧ (∀ i ∈ fp pa, w.heap.size ≤ i) ∧ (∀ i ∈ fp ca, w.heap.size ≤ i) ∧ Kept [] w w'
theorem nine_cells {w : World} {b : Nat} {t : TypeId} {v0 v1 v2 v3 v4 v5 v6 v7 v8 : Value} (h : w.heap[b]? = some (.cells #[v0, v1, v2, v3, v4, v5, v6, v7, v8] t (0, 0))) :
    w.cell? ⟨b, 0, none⟩ = some v0 ∧ w.cell? ⟨b, 1, none⟩ = some v1 ∧ w.cell? ⟨b, 2, none⟩ = some v2 ∧ w.cell? ⟨b, 3, none⟩ = some v3 ∧ w.cell? ⟨b, 4, none⟩ = some v4 ∧ w.cell? ⟨b, 5, none⟩ = some v5 ∧ w.cell? ⟨b, 6, none⟩ = some v6 ∧ w.cell? ⟨b, 7, none⟩ = some v7 ∧ w.cell? ⟨b, 8, none⟩ = some v8 ∧ w.frozen? ⟨b, 0, none⟩ = false ∧ w.frozen? ⟨b, 1, none⟩ = false ∧ w.frozen? ⟨b, 2, none⟩ = false ∧ w.frozen? ⟨b, 3, none⟩ = false ∧ w.frozen? ⟨b, 4, none⟩ = false ∧ w.frozen? ⟨b, 5, none⟩ = false ∧ w.frozen? ⟨b, 6, none⟩ = false ∧ w.frozen? ⟨b, 7, none⟩ = false ∧ w.frozen? ⟨b, 8, none⟩ = false := by
  refine ⟨?_, ?_, ?_, ?_, ?_, ?_, ?_, ?_, ?_, free_at h _, free_at h _, free_at h _, free_at h _, free_at h _, free_at h _, free_at h _, free_at h _, free_at h _⟩ <;> (rw [cell_at h]; rfl)
set_option maxHeartbeats 8000000 in
set_option maxRecDepth 100000 in
theorem get_any {w : World} {sb mb : Nat} {idle abs : Int} {X : EXs} (h : SesAt w sb mb idle abs X) (s : ByteArray) (hs : s.size ≤ maxLen) (now : Int) :
    Calls Try.prog 13 #[.pointer (some ⟨sb, 0, none⟩), .string s, .int .i64 now] w fun e w' => Got w w' e (getR (absW X) s.data.toList now) (findC (absW X) s.data.toList now) := by
  have hk0 := (Kept.refl [] w).alloc (.cells #[.string ⟨#[]⟩, .string ⟨#[]⟩, .string ⟨#[]⟩, .string ⟨#[]⟩, .int .i64 0, .int .i64 0, .int .i64 0, .slice none 0 0, .slice none 0 0] 33 (0, 0))
  have hb0 := heap_alloc_new w (.cells #[.string ⟨#[]⟩, .string ⟨#[]⟩, .string ⟨#[]⟩, .string ⟨#[]⟩, .int .i64 0, .int .i64 0, .int .i64 0, .slice none 0 0, .slice none 0 0] 33 (0, 0))
  obtain ⟨w0, HW0⟩ : ∃ w0, Hid (w0 = w.alloc (.cells #[.string ⟨#[]⟩, .string ⟨#[]⟩, .string ⟨#[]⟩, .string ⟨#[]⟩, .int .i64 0, .int .i64 0, .int .i64 0, .slice none 0 0, .slice none 0 0] 33 (0, 0))) := ⟨_, hid rfl⟩
  rw [← HW0.out] at hk0 hb0
  have HK0 := hid hk0
  have HB0 := hid hb0
  have h0 := h.keptN hk0
  have HF := hid (find_any h0 s hs now)
  by_cases hz : findC (absW X) s.data.toList now = 0
  · obtain ⟨q, hq, hv, hen, hun⟩ := find_ptr hz
    rw [hz, hv] at HF
    have hp := h0.map.of_look hq
    have hin := h.good.look (id := s.data.toList) (x := q.x) (by rw [absW_look, hq]; rfl)
    have hl4 := hin.prfs.few
    have hlc := hin.few
    have E := hid (show getR (absW X) s.data.toList now = (q.id, q.x) by unfold getR; rw [if_pos hz, absW_look, hq]; show (s.data.toList, q.x) = _; rw [h.key _ (alook_some hq)])
    rw [E.out, hz]
    have HP := hid hp
    clear h h0 hq hv hz hen hun hin hp hk0 hb0 E
    go_enter Try.func13, Try.ntmps13
    go_wp2_with fail
    rw [← HW0.out]
    refine HF.out.mono ?_
    rintro e w1 ⟨rfl, hd⟩
    have HD := hid hd.kept
    obtain ⟨d0, d1, d2, d3, d4, d5, d6, d7, d8, d9⟩ := (HP.out.atD hd).ec
    clear hd
    obtain ⟨w2, HW2⟩ : ∃ w2, Hid (w2 = w1.alloc (.cells #[.string ⟨q.id.toArray⟩, .string ⟨q.x.user.toArray⟩, .string ⟨q.x.tenant.toArray⟩, .string ⟨q.x.device.toArray⟩, .int .i64 q.x.started, .int .i64 q.x.seen, .int .i64 q.x.until_, .slice q.pa q.x.proofs.length q.pc, .slice q.ca q.x.clients.length q.cc] 33 (0, 0))) := ⟨_, hid rfl⟩
    have hb2 := heap_alloc_new w1 (.cells #[.string ⟨q.id.toArray⟩, .string ⟨q.x.user.toArray⟩, .string ⟨q.x.tenant.toArray⟩, .string ⟨q.x.device.toArray⟩, .int .i64 q.x.started, .int .i64 q.x.seen, .int .i64 q.x.until_, .slice q.pa q.x.proofs.length q.pc, .slice q.ca q.x.clients.length q.cc] 33 (0, 0))
    have hk2 := HD.out.alloc (.cells #[.string ⟨q.id.toArray⟩, .string ⟨q.x.user.toArray⟩, .string ⟨q.x.tenant.toArray⟩, .string ⟨q.x.device.toArray⟩, .int .i64 q.x.started, .int .i64 q.x.seen, .int .i64 q.x.until_, .slice q.pa q.x.proofs.length q.pc, .slice q.ca q.x.clients.length q.cc] 33 (0, 0))
    rw [← HW2.out] at hb2 hk2
    have HB2 := hid hb2
    have HK2 := hid hk2
    have HC2 := hid (nine_cells hb2)
    have HP2 := hid (HP.out.keptN hk2)
    have e7 := HP2.out.ec.c7
    have HCP := hid (cloneP_any (cap := q.pc) HP2.out.prf (by omega))
    obtain ⟨b2, HBB⟩ : ∃ b2, Hid (b2 = w1.heap.size) := ⟨_, hid rfl⟩
    rw [← HBB.out] at HB2 HC2
    have hqb := lt_of_heap HP.out.blk
    have hsz1 := HD.out.size
    have hsz0 := HK0.out.size
    have hqne : q.p ≠ b2 := by rw [HBB.out]; omega
    have hb2w : w.heap.size < w1.heap.size := Nat.lt_of_lt_of_le (lt_of_heap HB0.out) hsz1
    have h6ne : w.heap.size ≠ b2 := by rw [HBB.out]; omega
    have HB6 := hid (HK2.out.at HB0.out (by simp))
    clear hb2 hk2
    rw [HW2.out] at e7
    go_wp2_with fail
    rw [← HW2.out, ← HBB.out]
    refine HCP.out.mono ?_
    rintro e w3 ⟨a3', c3', rfl, o3⟩
    have HO3 := hid o3
    have hb3 := o3.kept.at HB2.out (by simp)
    have k7 := (nine_cells hb3)
    obtain ⟨_, _, _, _, _, _, _, g7, _, _, _, _, _, _, _, _, u7, _⟩ := k7
    have hb3' := heap_setCell_same w3 b2 7 _ _ (.slice a3' q.x.proofs.length c3') hb3
    have HP3 := hid (entLaw.kept [b2] w2 _ q HP2.out ((o3.kept.mono (T := [b2]) (by simp)).step (kept_one b2 w3 7 (.slice a3' q.x.proofs.length c3')) (fun _ hi => hi)) (fun i hi hm => by
      simp at hm; subst hm
      have := entLaw.lt HP.out _ hi
      rw [HBB.out] at this
      have := lt_of_heap HP.out.blk
      omega))
    have e8 := HP3.out.ec.c8
    have HCS := hid (cloneS_any (cap := q.cc) HP3.out.cli (by omega))
    have HB3 := hid hb3'
    have HK3 := hid ((HK2.out.mono (T := [b2]) (by simp)).step ((o3.kept.mono (T := [b2]) (by simp)).step (kept_one b2 w3 7 (.slice a3' q.x.proofs.length c3')) (fun _ hi => hi)) (fun _ hi => hi))
    obtain ⟨w4, HW4⟩ : ∃ w4, Hid (w4 = w3.setCell ⟨b2, 7, none⟩ (.slice a3' q.x.proofs.length c3')) := ⟨_, hid rfl⟩
    have HSZ4 := hid (show w4.heap.size = w3.heap.size by rw [HW4.out]; simp)
    rw [← HW4.out] at HB3 HCS HP3 HK3 e8
    clear o3 hb3 hb3' e7
    rw [HW4.out] at e8
    go_wp2_with fail
    rw [← HW4.out]
    refine HCS.out.mono ?_
    rintro e w5 ⟨a4', c4', rfl, o4⟩
    have HO4 := hid o4
    have hb4 := o4.kept.at HB3.out (by simp)
    have k8 := (nine_cells hb4)
    obtain ⟨m0, m1, m2, m3, m4, m5, m6, m7, m8, n0, n1, n2, n3, n4, n5, n6, n7, n8⟩ := k8
    have hb4' := heap_setCell_same w5 b2 8 _ _ (.slice a4' q.x.clients.length c4') hb4
    have HK5 := hid ((HK3.out.step (o4.kept.mono (T := [b2]) (by simp)) (fun _ hi => hi)).step (kept_one b2 w5 8 (.slice a4' q.x.clients.length c4')) (fun _ hi => hi))
    have HK6 := hid (kept_one b2 w5 8 (.slice a4' q.x.clients.length c4'))
    have hb6 := HK5.out.at HB0.out (by simp; exact h6ne)
    obtain ⟨a0, a1, a2, a3, a4, a5, a6, a7, a8, f0, f1, f2, f3, f4, f5, f6, f7, f8⟩ := nine_cells hb6
    have HPR := hid (show PrfsAt (w5.setCell ⟨b2, 8, none⟩ (.slice a4' q.x.clients.length c4')) a3' q.x.proofs from SeqAt.kept (HO3.out.seq encPOk) CEnc.lasts (((kept_one b2 w3 7 (.slice a3' q.x.proofs.length c3')).step (by rw [← HW4.out]; exact HO4.out.kept.mono (T := [b2]) (by simp)) (fun _ hi => hi)).step HK6.out (fun _ hi => hi)) (fun _ y hy hm => by
      subst hy
      have h1 := HO3.out.new y.block (by simp [fp])
      have h4 : b2 < w2.heap.size := by rw [HBB.out, HW2.out]; simp
      simp at hm
      omega))
    have HST := hid (show StrsAt (w5.setCell ⟨b2, 8, none⟩ (.slice a4' q.x.clients.length c4')) a4' q.x.clients from SeqAt.kept (HO4.out.seq encSOk) CEnc.lasts HK6.out (fun _ y hy hm => by
      subst hy
      have h1 := HO4.out.new y.block (by simp [fp])
      have h2 := HO3.out.kept.size
      have h3 := HSZ4.out
      have h4 : b2 < w2.heap.size := by rw [HBB.out, HW2.out]; simp
      simp at hm
      omega))
    have HN3 := hid (show ∀ i ∈ fp a3', w1.heap.size < i from fun i hi => by have := HO3.out.new i hi; rw [HW2.out] at this; simp at this; omega)
    have HN4 := hid (show ∀ i ∈ fp a4', w1.heap.size < i from fun i hi => by
      have := HO4.out.new i hi
      have h2 := HO3.out.kept.size
      have h3 := HSZ4.out
      have h4 : w1.heap.size < w2.heap.size := by rw [HW2.out]; simp
      omega)
    clear o4 hb4 hb4' e8 hb6
    go_wp2_with fail
    refine bodyPost_ret (v := .tuple #[.agg #[.string ⟨q.id.toArray⟩, .string ⟨q.x.user.toArray⟩, .string ⟨q.x.tenant.toArray⟩, .string ⟨q.x.device.toArray⟩, .int .i64 q.x.started, .int .i64 q.x.seen, .int .i64 q.x.until_, .slice a3' q.x.proofs.length c3', .slice a4' q.x.clients.length c4'], .int .i64 0]) (by simp [results, Try.results13, go_sem, a0, a1, a2, a3, a4, a5, a6, a7, a8]) rfl ?_
    have hK := kept9 w.heap.size (w5.setCell ⟨b2, 8, none⟩ (.slice a4' q.x.clients.length c4')) (.string ⟨q.id.toArray⟩) (.string ⟨q.x.user.toArray⟩) (.string ⟨q.x.tenant.toArray⟩) (.string ⟨q.x.device.toArray⟩) (.int .i64 q.x.started) (.int .i64 q.x.seen) (.int .i64 q.x.until_) (.slice a3' q.x.proofs.length c3') (.slice a4' q.x.clients.length c4')
    refine ⟨a3', c3', a4', c4', rfl, SeqAt.kept HPR.out CEnc.lasts hK (fun _ y hy hm => ?_), SeqAt.kept HST.out CEnc.lasts hK (fun _ y hy hm => ?_), fun i hi => by have := HN3.out i hi; omega, fun i hi => by have := HN4.out i hi; omega, ?_⟩
    · subst hy
      have := HN3.out y.block (by simp [fp])
      simp at hm; omega
    · subst hy
      have := HN4.out y.block (by simp [fp])
      simp at hm; omega
    · exact (((HK0.out.step (HK5.out.mono (T := [b2]) (by simp) |>.mono (fun i hi => .inr (by simp at hi; rw [hi, HBB.out]; exact hsz1)) : Kept [] w0 _) (by simp)).mono (T := [w.heap.size]) (by simp)).step hK (fun _ hi => hi)).mono (fun i hi => .inr (by simp at hi; omega))
  · have E := hid (show getR (absW X) s.data.toList now = ([], zs) by unfold getR; rw [if_neg hz])
    have hne : (findC (absW X) s.data.toList now != 0) = true := by simpa using hz
    rw [find_nptr hz] at HF
    rw [E.out]
    generalize findC (absW X) s.data.toList now = c at *
    clear h h0 hz hk0 hb0
    go_enter Try.func13, Try.ntmps13
    go_wp2_with fail
    rw [← HW0.out]
    refine HF.out.mono ?_
    rintro e w1 ⟨rfl, hd⟩
    have HD := hid hd.kept
    have hb1 := hd.kept.at HB0.out (by simp)
    clear hd
    obtain ⟨a0, a1, a2, a3, a4, a5, a6, a7, a8, f0, f1, f2, f3, f4, f5, f6, f7, f8⟩ := nine_cells hb1
    go_wp2_with fail
    refine bodyPost_ret (v := .tuple #[.agg #[.string ⟨#[]⟩, .string ⟨#[]⟩, .string ⟨#[]⟩, .string ⟨#[]⟩, .int .i64 0, .int .i64 0, .int .i64 0, .slice none 0 0, .slice none 0 0], .int .i64 c]) (by simp [results, Try.results13, go_sem, a0, a1, a2, a3, a4, a5, a6, a7, a8]) rfl ?_
    have hk := HK0.out.step HD.out (by simp)
    refine ⟨none, 0, none, 0, rfl, list_nil _ _, list_nil _ _, by simp [fp], by simp [fp], ?_⟩
    exact (hk.mono (T := [w.heap.size]) (by simp)).step ((((((((((Kept.refl [w.heap.size] w1).setCell (.inl (by simp)) _).setCell (.inl (by simp)) _).setCell (.inl (by simp)) _).setCell (.inl (by simp)) _).setCell (.inl (by simp)) _).setCell (.inl (by simp)) _).setCell (.inl (by simp)) _).setCell (.inl (by simp)) _).setCell (.inl (by simp)) _) (fun _ hi => hi) |>.mono (fun i hi => .inr (by simp at hi; omega))
end Go.Proofs.Ytakccoiecmibcaa
