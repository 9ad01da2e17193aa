/- done of the reference. Printed by gen_sdone.py. -/
import Derived.Test.YtakccoiecmibcaaRef7
import Derived.Test.YtakccoiecmibcaaDo
namespace Go.Proofs.Ytakccoiecmibcaa
open Go.RowKit Go.Maps

/-- done: the list and the error. -/
def DoneRes (w' : World) (e : Ending) (l : List Str) (c : Int) : Prop := ∃ a cap, e = .returned (.tuple #[.slice a l.length cap, .int .i64 c]) ∧ StrsAt w' a l
theorem DoneRes.nil (w' : World) (c : Int) : DoneRes w' (.returned (.tuple #[.slice none 0 0, .int .i64 c])) [] c := ⟨none, 0, rfl, list_nil _ none⟩
set_option maxHeartbeats 16000000 in
set_option maxRecDepth 100000 in
theorem done_any {w : World} {qb : Nat} {idle abs : Int} {a : Option Addr} {cap : Nat} {Y : List EP} (h : RefAt w qb idle abs a cap Y) (x : OpD) (hs : Small x) (hl : PrfsAt w x.pa x.proofs) :
    Calls Try.prog 21 #[.pointer (some ⟨qb, 0, none⟩), .agg #[.int .i64 x.call, .int .i64 x.now, .string ⟨x.id.toArray⟩, .string ⟨x.user.toArray⟩, .string ⟨x.tenant.toArray⟩, .string ⟨x.device.toArray⟩, .string ⟨x.client.toArray⟩, .slice x.pa x.proofs.length x.pc]] w fun e w' => DoneRes w' e (doL (absK Y) x) (doE (absK Y) x) ∧ RLeft w w' qb idle abs a Y (doU idle abs (absK Y) x) := by
  have hk0 := (Kept.refl [] w).alloc (.cells #[.int .i64 x.call, .int .i64 x.now, .string ⟨x.id.toArray⟩, .string ⟨x.user.toArray⟩, .string ⟨x.tenant.toArray⟩, .string ⟨x.device.toArray⟩, .string ⟨x.client.toArray⟩, .slice x.pa x.proofs.length x.pc] 49 (0, 0))
  have hb0 := heap_alloc_new w (.cells #[.int .i64 x.call, .int .i64 x.now, .string ⟨x.id.toArray⟩, .string ⟨x.user.toArray⟩, .string ⟨x.tenant.toArray⟩, .string ⟨x.device.toArray⟩, .string ⟨x.client.toArray⟩, .slice x.pa x.proofs.length x.pc] 49 (0, 0))
  obtain ⟨w0, HW0⟩ : ∃ w0, Hid (w0 = w.alloc (.cells #[.int .i64 x.call, .int .i64 x.now, .string ⟨x.id.toArray⟩, .string ⟨x.user.toArray⟩, .string ⟨x.tenant.toArray⟩, .string ⟨x.device.toArray⟩, .string ⟨x.client.toArray⟩, .slice x.pa x.proofs.length x.pc] 49 (0, 0))) := ⟨_, hid rfl⟩
  rw [← HW0.out] at hk0 hb0
  have HK0 := hid hk0
  have HB0 := hid hb0
  have H := hid (h.keptN hk0)
  have HL := hid (hl.keptN hk0)
  have HC := hid (fun wq (k : Kept [] w0 wq) => eight_cells (k.at HB0.out (by simp)))
  have HI := hid hs
  have HNS := hid (show w.heap.size ∉ rdom qb a Y from fun hm => by have := h.lt _ hm; omega)
  clear h hl hk0 hb0 hs
  by_cases x0 : x.call = 0
  · have HE := hid (show doE (absK Y) x = startC (absK Y) x.id x.user x.tenant x.device x.proofs by unfold doE; rw [if_pos x0])
    have HU := hid (show doU idle abs (absK Y) x = startU idle abs (absK Y) x.id x.user x.tenant x.device x.proofs x.now by unfold doU; rw [if_pos x0])
    have HLL := hid (show doL (absK Y) x = [] by unfold doL; rw [if_neg (by omega), if_neg (by omega)])
    rw [HE.out, HU.out, HLL.out]
    have q0 : (x.call == 0) = true := by rw [beq_iff_eq]; exact x0
    clear x0
    obtain ⟨d0, d1, d2, d3, d4, d5, d6, d7⟩ := HC.out _ (Kept.refl [] w0)
    rw [HW0.out] at d0 d1 d2 d3 d4 d5 d6 d7
    have HD := hid (rstart_any H.out ⟨x.id.toArray⟩ ⟨x.user.toArray⟩ ⟨x.tenant.toArray⟩ ⟨x.device.toArray⟩ HI.out.ids.1 HI.out.ids.2.1 HI.out.ids.2.2.1 HI.out.ids.2.2.2.1 (pc := x.pc) HL.out (by have := HI.out.prfs; omega) x.now)
    go_enter Try.func21, Try.ntmps21
    go_wp2_with fail
    rw [← HW0.out]
    refine HD.out.mono ?_
    rintro e w1 ⟨rfl, hL⟩
    have HL1 := hid hL
    clear hL
    go_wp2_with fail
    go_ret2
    exact ⟨DoneRes.nil _ _, RLeft.from HK0.out HL1.out⟩
  · skip
    by_cases x1 : x.call = 1
    · have HE := hid (show doE (absK Y) x = findC (absK Y) x.id x.now by unfold doE; rw [if_neg x0, if_pos x1])
      have HU := hid (show doU idle abs (absK Y) x = touchU idle abs (absK Y) x.id x.now by unfold doU; rw [if_neg x0, if_pos x1])
      have HLL := hid (show doL (absK Y) x = [] by unfold doL; rw [if_neg (by omega), if_neg (by omega)])
      rw [HE.out, HU.out, HLL.out]
      have q0 : (x.call == 0) = false := by rw [beq_eq_false_iff_ne]; exact x0
      have q1 : (x.call == 1) = true := by rw [beq_iff_eq]; exact x1
      clear x0 x1
      obtain ⟨d0, d1, d2, d3, d4, d5, d6, d7⟩ := HC.out _ (Kept.refl [] w0)
      rw [HW0.out] at d0 d1 d2 d3 d4 d5 d6 d7
      have HD := hid (rtouch_any H.out ⟨x.id.toArray⟩ x.now)
      go_enter Try.func21, Try.ntmps21
      go_wp2_with fail
      rw [← HW0.out]
      refine HD.out.mono ?_
      rintro e w1 ⟨rfl, hL⟩
      have HL1 := hid hL
      clear hL
      go_wp2_with fail
      go_ret2
      exact ⟨DoneRes.nil _ _, RLeft.from HK0.out HL1.out⟩
    · skip
      by_cases x2 : x.call = 2
      · have HE := hid (show doE (absK Y) x = presC (absK Y) x.id (firstP x) x.now by unfold doE; rw [if_neg x0, if_neg x1, if_pos x2])
        have HU := hid (show doU idle abs (absK Y) x = presU (absK Y) x.id (firstP x) x.now by unfold doU; rw [if_neg x0, if_neg x1, if_pos x2])
        have HLL := hid (show doL (absK Y) x = [] by unfold doL; rw [if_neg (by omega), if_neg (by omega)])
        rw [HE.out, HU.out, HLL.out]
        have q0 : (x.call == 0) = false := by rw [beq_eq_false_iff_ne]; exact x0
        have q1 : (x.call == 1) = false := by rw [beq_eq_false_iff_ne]; exact x1
        have q2 : (x.call == 2) = true := by rw [beq_iff_eq]; exact x2
        clear x0 x1 x2
        obtain ⟨d0, d1, d2, d3, d4, d5, d6, d7⟩ := HC.out _ (Kept.refl [] w0)
        rw [HW0.out] at d0 d1 d2 d3 d4 d5 d6 d7
        have HF1 := hid (first_any (w := w0.drew) x (HL.out.keptN (Kept.refl [] w0).drew))
        have HPR := hid (fun wq (k : Kept [] w0 wq) => rpresent_any (H.out.keptN k) ⟨x.id.toArray⟩ (firstP x) x.now)
        have HXL := hid (fun wq wr (k : Kept [] w0 wq) (hL : RLeft wq wr qb idle abs a Y (presU (absK Y) x.id (firstP x) x.now)) => eight_cells (hL.kept.at (k.at HB0.out (by simp)) (fun hi => by have := H.out.lt _ hi; have := lt_of_heap HB0.out; exact absurd (show w.heap.size ∈ rdom qb a Y from hi) (fun hm => HNS.out hm))))
        generalize firstP x = p at *
        go_enter Try.func21, Try.ntmps21
        go_wp2_with fail
        rw [← HW0.out]
        go_region_held3 (fun w' => w'.cell? ⟨w.heap.size, 0, none⟩ = some (.int .i64 x.call) ∧ w'.cell? ⟨w.heap.size, 1, none⟩ = some (.int .i64 x.now) ∧ w'.cell? ⟨w.heap.size, 2, none⟩ = some (.string ⟨x.id.toArray⟩) ∧ w'.cell? ⟨w.heap.size, 3, none⟩ = some (.string ⟨x.user.toArray⟩) ∧ w'.cell? ⟨w.heap.size, 4, none⟩ = some (.string ⟨x.tenant.toArray⟩) ∧ w'.cell? ⟨w.heap.size, 5, none⟩ = some (.string ⟨x.device.toArray⟩) ∧ w'.cell? ⟨w.heap.size, 6, none⟩ = some (.string ⟨x.client.toArray⟩) ∧ w'.cell? ⟨w.heap.size, 7, none⟩ = some (.slice x.pa x.proofs.length x.pc))
          (first
            | exact HXL.out _ _ ((Kept.refl [] w0).drew.step k1 (by simp)) hL
            | exact HC.out _ ((Kept.refl [] w0).drew.step k1 (by simp))
            | exact HC.out _ (Kept.refl [] w0).drew)
          (first
            | (go_at_call 44; refine (HPR.out _ ((Kept.refl [] w0).drew.step k1 (by simp))).mono ?_; rintro e w2 ⟨rfl, hL⟩)
            | (go_at_call 41; refine HF1.out.mono ?_; rintro e w1 ⟨rfl, k1⟩))
        have HL1 := hid hL
        have HK1 := hid ((Kept.refl [] w0).drew.step k1 (by simp))
        clear hL k1
        go_wp2_with fail
        go_ret2
        exact ⟨DoneRes.nil _ _, RLeft.from (HK0.out.step HK1.out (by simp)) HL1.out⟩
      · skip
        by_cases x3 : x.call = 3
        · have HE := hid (show doE (absK Y) x = joinC (absK Y) x.id x.client x.now by unfold doE; rw [if_neg x0, if_neg x1, if_neg x2, if_pos x3])
          have HU := hid (show doU idle abs (absK Y) x = joinU (absK Y) x.id x.client x.now by unfold doU; rw [if_neg x0, if_neg x1, if_neg x2, if_pos x3])
          have HLL := hid (show doL (absK Y) x = [] by unfold doL; rw [if_neg (by omega), if_neg (by omega)])
          rw [HE.out, HU.out, HLL.out]
          have q0 : (x.call == 0) = false := by rw [beq_eq_false_iff_ne]; exact x0
          have q1 : (x.call == 1) = false := by rw [beq_eq_false_iff_ne]; exact x1
          have q2 : (x.call == 2) = false := by rw [beq_eq_false_iff_ne]; exact x2
          have q3 : (x.call == 3) = true := by rw [beq_iff_eq]; exact x3
          clear x0 x1 x2 x3
          obtain ⟨d0, d1, d2, d3, d4, d5, d6, d7⟩ := HC.out _ (Kept.refl [] w0)
          rw [HW0.out] at d0 d1 d2 d3 d4 d5 d6 d7
          have HD := hid (rjoin_any H.out ⟨x.id.toArray⟩ ⟨x.client.toArray⟩ HI.out.ids.2.2.2.2 x.now)
          go_enter Try.func21, Try.ntmps21
          go_wp2_with fail
          rw [← HW0.out]
          refine HD.out.mono ?_
          rintro e w1 ⟨rfl, hL⟩
          have HL1 := hid hL
          clear hL
          go_wp2_with fail
          go_ret2
          exact ⟨DoneRes.nil _ _, RLeft.from HK0.out HL1.out⟩
        · skip
          by_cases x4 : x.call = 4
          · have HE := hid (show doE (absK Y) x = endC (absK Y) x.id by unfold doE; rw [if_neg x0, if_neg x1, if_neg x2, if_neg x3, if_pos x4])
            have HU := hid (show doU idle abs (absK Y) x = endU (absK Y) x.id by unfold doU; rw [if_neg x0, if_neg x1, if_neg x2, if_neg x3, if_pos x4])
            have HLL := hid (show doL (absK Y) x = endL (absK Y) x.id by unfold doL; rw [if_pos x4])
            rw [HE.out, HU.out, HLL.out]
            have q0 : (x.call == 0) = false := by rw [beq_eq_false_iff_ne]; exact x0
            have q1 : (x.call == 1) = false := by rw [beq_eq_false_iff_ne]; exact x1
            have q2 : (x.call == 2) = false := by rw [beq_eq_false_iff_ne]; exact x2
            have q3 : (x.call == 3) = false := by rw [beq_eq_false_iff_ne]; exact x3
            have q4 : (x.call == 4) = true := by rw [beq_iff_eq]; exact x4
            clear x0 x1 x2 x3 x4
            obtain ⟨d0, d1, d2, d3, d4, d5, d6, d7⟩ := HC.out _ (Kept.refl [] w0)
            rw [HW0.out] at d0 d1 d2 d3 d4 d5 d6 d7
            have HD := hid (rend_any H.out ⟨x.id.toArray⟩)
            go_enter Try.func21, Try.ntmps21
            go_wp2_with fail
            rw [← HW0.out]
            refine HD.out.mono ?_
            rintro e w1 ⟨⟨a1, c1, rfl, s1⟩, hL⟩
            have HS1 := hid s1
            have HL1 := hid hL
            clear hL s1
            go_wp2_with fail
            go_ret2
            exact ⟨⟨a1, c1, rfl, HS1.out⟩, RLeft.from HK0.out HL1.out⟩
          · skip
            by_cases x5 : x.call = 5
            · have HE := hid (show doE (absK Y) x = 0 by unfold doE; rw [if_neg x0, if_neg x1, if_neg x2, if_neg x3, if_neg x4, if_pos x5])
              have HU := hid (show doU idle abs (absK Y) x = expU (absK Y) x.now by unfold doU; rw [if_neg x0, if_neg x1, if_neg x2, if_neg x3, if_neg x4, if_pos x5])
              have HLL := hid (show doL (absK Y) x = expL (absK Y) x.now by unfold doL; rw [if_neg x4, if_pos x5])
              rw [HE.out, HU.out, HLL.out]
              have q0 : (x.call == 0) = false := by rw [beq_eq_false_iff_ne]; exact x0
              have q1 : (x.call == 1) = false := by rw [beq_eq_false_iff_ne]; exact x1
              have q2 : (x.call == 2) = false := by rw [beq_eq_false_iff_ne]; exact x2
              have q3 : (x.call == 3) = false := by rw [beq_eq_false_iff_ne]; exact x3
              have q4 : (x.call == 4) = false := by rw [beq_eq_false_iff_ne]; exact x4
              have q5 : (x.call == 5) = true := by rw [beq_iff_eq]; exact x5
              clear x0 x1 x2 x3 x4 x5
              obtain ⟨d0, d1, d2, d3, d4, d5, d6, d7⟩ := HC.out _ (Kept.refl [] w0)
              rw [HW0.out] at d0 d1 d2 d3 d4 d5 d6 d7
              have HD := hid (rexpire_any H.out x.now)
              go_enter Try.func21, Try.ntmps21
              go_wp2_with fail
              rw [← HW0.out]
              refine HD.out.mono ?_
              rintro e w1 ⟨⟨a1, c1, rfl, s1⟩, hL⟩
              have HS1 := hid s1
              have HL1 := hid hL
              clear hL s1
              go_wp2_with fail
              go_ret2
              exact ⟨⟨a1, c1, rfl, HS1.out⟩, RLeft.from HK0.out HL1.out⟩
            · skip
              have HE := hid (show doE (absK Y) x = findC (absK Y) x.id x.now by unfold doE; rw [if_neg x0, if_neg x1, if_neg x2, if_neg x3, if_neg x4, if_neg x5])
              have HU := hid (show doU idle abs (absK Y) x = absK Y by unfold doU; rw [if_neg x0, if_neg x1, if_neg x2, if_neg x3, if_neg x4, if_neg x5])
              have HLL := hid (show doL (absK Y) x = [] by unfold doL; rw [if_neg x4, if_neg x5])
              rw [HE.out, HU.out, HLL.out]
              have q0 : (x.call == 0) = false := by rw [beq_eq_false_iff_ne]; exact x0
              have q1 : (x.call == 1) = false := by rw [beq_eq_false_iff_ne]; exact x1
              have q2 : (x.call == 2) = false := by rw [beq_eq_false_iff_ne]; exact x2
              have q3 : (x.call == 3) = false := by rw [beq_eq_false_iff_ne]; exact x3
              have q4 : (x.call == 4) = false := by rw [beq_eq_false_iff_ne]; exact x4
              have q5 : (x.call == 5) = false := by rw [beq_eq_false_iff_ne]; exact x5
              clear x0 x1 x2 x3 x4 x5
              obtain ⟨d0, d1, d2, d3, d4, d5, d6, d7⟩ := HC.out _ (Kept.refl [] w0)
              rw [HW0.out] at d0 d1 d2 d3 d4 d5 d6 d7
              have HD := hid (rget_any H.out ⟨x.id.toArray⟩ x.now)
              go_enter Try.func21, Try.ntmps21
              go_wp2_with fail
              rw [← HW0.out]
              refine HD.out.mono ?_
              rintro e w1 ⟨pa, pc, ca, cc, rfl, _, _, k1⟩
              have HK1 := hid k1
              clear k1
              go_wp2_with fail
              go_ret2
              exact ⟨DoneRes.nil _ _, RLeft.from HK0.out (RLeft.same H.out (HK1.out.alloc _))⟩
end Go.Proofs.Ytakccoiecmibcaa
