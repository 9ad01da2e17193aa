/- The sessions of the program, seen from the world at which a law began; do. Printed by gen_sdo.py. -/
import Derived.Test.YtakccoiecmibcaaOps
namespace Go.Proofs.Ytakccoiecmibcaa
open Go.RowKit Go.Maps

theorem Left.kept {w w' : World} {sb mb : Nat} {idle abs : Int} {X : EXs} {U' : Sss} (h : Left w w' sb mb idle abs X U') : Kept (sdom sb mb X) w w' := by obtain ⟨_, _, _, k, _⟩ := h; exact k
theorem Left.from {w w2 w3 : World} {sb mb : Nat} {idle abs : Int} {X : EXs} {U' : Sss} (k2 : Kept [] w w2) (hL : Left w2 w3 sb mb idle abs X U') : Left w w3 sb mb idle abs X U' := by
  obtain ⟨X', h', e, k3, hd⟩ := hL
  have := k2.size
  exact ⟨X', h', e, (k2.mono (T := sdom sb mb X) (by simp)).step k3 (fun i hi => hi), fun i hi => (hd i hi).imp id (fun e => by omega)⟩
theorem Left.then {w w2 w3 : World} {sb mb : Nat} {idle abs : Int} {X : EXs} {U' : Sss} (hL : Left w w2 sb mb idle abs X U') (k : Kept [] w2 w3) : Left w w3 sb mb idle abs X U' := by
  obtain ⟨X', h', e, k3, hd⟩ := hL
  exact ⟨X', h'.keptN k, e, k3.step k (by simp), hd⟩
/-- do: the list and the error. -/
def DoRes (w w' : World) (e : Ending) (l : List Str) (c : Int) : Prop := ∃ a cap, e = .returned (.tuple #[.slice a l.length cap, .int .i64 c]) ∧ StrsAt w' a l ∧ ∀ i ∈ fp a, w.heap.size ≤ i
theorem DoRes.nil (w w' : World) (c : Int) : DoRes w w' (.returned (.tuple #[.slice none 0 0, .int .i64 c])) [] c := ⟨none, 0, rfl, list_nil _ none, by simp [fp]⟩
set_option maxHeartbeats 16000000 in
set_option maxRecDepth 100000 in
theorem do_any {w : World} {sb mb : Nat} {idle abs : Int} {X : EXs} (h : SesAt w sb mb idle abs X) (x : OpD) (hs : Small x) (hl : PrfsAt w x.pa x.proofs) :
    Calls Try.prog 20 #[.pointer (some ⟨sb, 0, none⟩), .agg #[.int .i64 x.call, .int .i64 x.now, .string ⟨x.id.toArray⟩, .string ⟨x.user.toArray⟩, .string ⟨x.tenant.toArray⟩, .string ⟨x.device.toArray⟩, .string ⟨x.client.toArray⟩, .slice x.pa x.proofs.length x.pc]] w fun e w' => DoRes w w' e (doL (absW X) x) (doE (absW X) x) ∧ Left w w' sb mb idle abs X (doU idle abs (absW X) x) := by
  have hk0 := (Kept.refl [] w).alloc (.cells #[.int .i64 x.call, .int .i64 x.now, .string ⟨x.id.toArray⟩, .string ⟨x.user.toArray⟩, .string ⟨x.tenant.toArray⟩, .string ⟨x.device.toArray⟩, .string ⟨x.client.toArray⟩, .slice x.pa x.proofs.length x.pc] 49 (0, 0))
  have hb0 := heap_alloc_new w (.cells #[.int .i64 x.call, .int .i64 x.now, .string ⟨x.id.toArray⟩, .string ⟨x.user.toArray⟩, .string ⟨x.tenant.toArray⟩, .string ⟨x.device.toArray⟩, .string ⟨x.client.toArray⟩, .slice x.pa x.proofs.length x.pc] 49 (0, 0))
  obtain ⟨w0, HW0⟩ : ∃ w0, Hid (w0 = w.alloc (.cells #[.int .i64 x.call, .int .i64 x.now, .string ⟨x.id.toArray⟩, .string ⟨x.user.toArray⟩, .string ⟨x.tenant.toArray⟩, .string ⟨x.device.toArray⟩, .string ⟨x.client.toArray⟩, .slice x.pa x.proofs.length x.pc] 49 (0, 0))) := ⟨_, hid rfl⟩
  rw [← HW0.out] at hk0 hb0
  have HK0 := hid hk0
  have HB0 := hid hb0
  have H := hid (h.keptN hk0)
  have HL := hid (hl.keptN hk0)
  have HC := hid (fun wq (k : Kept [] w0 wq) => eight_cells (k.at HB0.out (by simp)))
  have HI := hid hs
  have HNS := hid (show w.heap.size ∉ sdom sb mb X from fun hm => by have := h.lt _ hm; omega)
  clear h hl hk0 hb0 hs
  by_cases x0 : x.call = 0
  · have HE := hid (show doE (absW X) x = startC (absW X) x.id x.user x.tenant x.device x.proofs by unfold doE; rw [if_pos x0])
    have HU := hid (show doU idle abs (absW X) x = startU idle abs (absW X) x.id x.user x.tenant x.device x.proofs x.now by unfold doU; rw [if_pos x0])
    have HLL := hid (show doL (absW X) x = [] by unfold doL; rw [if_neg (by omega), if_neg (by omega)])
    rw [HE.out, HU.out, HLL.out]
    have q0 : (x.call == 0) = true := by rw [beq_iff_eq]; exact x0
    clear x0
    obtain ⟨d0, d1, d2, d3, d4, d5, d6, d7⟩ := HC.out _ (Kept.refl [] w0)
    rw [HW0.out] at d0 d1 d2 d3 d4 d5 d6 d7
    have HD := hid (start_any H.out ⟨x.id.toArray⟩ ⟨x.user.toArray⟩ ⟨x.tenant.toArray⟩ ⟨x.device.toArray⟩ HI.out.ids.1 HI.out.ids.2.1 HI.out.ids.2.2.1 HI.out.ids.2.2.2.1 (cap := x.pc) HL.out (by have := HI.out.prfs; omega) x.now)
    go_enter Try.func20, Try.ntmps20
    go_wp2_with fail
    rw [← HW0.out]
    refine HD.out.mono ?_
    rintro e w1 ⟨rfl, hL⟩
    have HL1 := hid hL
    clear hL
    go_wp2_with fail
    go_ret2
    exact ⟨DoRes.nil _ _ _, Left.from HK0.out HL1.out⟩
  · skip
    by_cases x1 : x.call = 1
    · have HE := hid (show doE (absW X) x = findC (absW X) x.id x.now by unfold doE; rw [if_neg x0, if_pos x1])
      have HU := hid (show doU idle abs (absW X) x = touchU idle abs (absW X) x.id x.now by unfold doU; rw [if_neg x0, if_pos x1])
      have HLL := hid (show doL (absW X) x = [] by unfold doL; rw [if_neg (by omega), if_neg (by omega)])
      rw [HE.out, HU.out, HLL.out]
      have q0 : (x.call == 0) = false := by rw [beq_eq_false_iff_ne]; exact x0
      have q1 : (x.call == 1) = true := by rw [beq_iff_eq]; exact x1
      clear x0 x1
      obtain ⟨d0, d1, d2, d3, d4, d5, d6, d7⟩ := HC.out _ (Kept.refl [] w0)
      rw [HW0.out] at d0 d1 d2 d3 d4 d5 d6 d7
      have HD := hid (touch_any H.out ⟨x.id.toArray⟩ HI.out.ids.1 x.now)
      go_enter Try.func20, Try.ntmps20
      go_wp2_with fail
      rw [← HW0.out]
      refine HD.out.mono ?_
      rintro e w1 ⟨rfl, hL⟩
      have HL1 := hid hL
      clear hL
      go_wp2_with fail
      go_ret2
      exact ⟨DoRes.nil _ _ _, Left.from HK0.out HL1.out⟩
    · skip
      by_cases x2 : x.call = 2
      · have HE := hid (show doE (absW X) x = presC (absW X) x.id (firstP x) x.now by unfold doE; rw [if_neg x0, if_neg x1, if_pos x2])
        have HU := hid (show doU idle abs (absW X) x = presU (absW X) x.id (firstP x) x.now by unfold doU; rw [if_neg x0, if_neg x1, if_pos x2])
        have HLL := hid (show doL (absW X) x = [] by unfold doL; rw [if_neg (by omega), if_neg (by omega)])
        rw [HE.out, HU.out, HLL.out]
        have q0 : (x.call == 0) = false := by rw [beq_eq_false_iff_ne]; exact x0
        have q1 : (x.call == 1) = false := by rw [beq_eq_false_iff_ne]; exact x1
        have q2 : (x.call == 2) = true := by rw [beq_iff_eq]; exact x2
        clear x0 x1 x2
        obtain ⟨d0, d1, d2, d3, d4, d5, d6, d7⟩ := HC.out _ (Kept.refl [] w0)
        rw [HW0.out] at d0 d1 d2 d3 d4 d5 d6 d7
        have HF1 := hid (first_any (w := w0.drew) x (HL.out.keptN (Kept.refl [] w0).drew))
        have HPR := hid (fun wq (k : Kept [] w0 wq) => present_any (H.out.keptN k) ⟨x.id.toArray⟩ HI.out.ids.1 (firstP x) x.now)
        have HXL := hid (fun wq wr (k : Kept [] w0 wq) (hL : Left wq wr sb mb idle abs X (presU (absW X) x.id (firstP x) x.now)) => eight_cells (hL.kept.at (k.at HB0.out (by simp)) (fun hi => by have := H.out.lt _ hi; have := lt_of_heap HB0.out; exact absurd (show w.heap.size ∈ sdom sb mb X from hi) (fun hm => HNS.out hm))))
        generalize firstP x = p at *
        go_enter Try.func20, Try.ntmps20
        go_wp2_with fail
        rw [← HW0.out]
        go_region_held3 (fun w' => w'.cell? ⟨w.heap.size, 0, none⟩ = some (.int .i64 x.call) ∧ w'.cell? ⟨w.heap.size, 1, none⟩ = some (.int .i64 x.now) ∧ w'.cell? ⟨w.heap.size, 2, none⟩ = some (.string ⟨x.id.toArray⟩) ∧ w'.cell? ⟨w.heap.size, 3, none⟩ = some (.string ⟨x.user.toArray⟩) ∧ w'.cell? ⟨w.heap.size, 4, none⟩ = some (.string ⟨x.tenant.toArray⟩) ∧ w'.cell? ⟨w.heap.size, 5, none⟩ = some (.string ⟨x.device.toArray⟩) ∧ w'.cell? ⟨w.heap.size, 6, none⟩ = some (.string ⟨x.client.toArray⟩) ∧ w'.cell? ⟨w.heap.size, 7, none⟩ = some (.slice x.pa x.proofs.length x.pc))
          (first
            | exact HXL.out _ _ ((Kept.refl [] w0).drew.step k1 (by simp)) hL
            | exact HC.out _ ((Kept.refl [] w0).drew.step k1 (by simp))
            | exact HC.out _ (Kept.refl [] w0).drew)
          (first
            | (go_at_call 29; refine (HPR.out _ ((Kept.refl [] w0).drew.step k1 (by simp))).mono ?_; rintro e w2 ⟨rfl, hL⟩)
            | (go_at_call 41; refine HF1.out.mono ?_; rintro e w1 ⟨rfl, k1⟩))
        have HL1 := hid hL
        have HK1 := hid ((Kept.refl [] w0).drew.step k1 (by simp))
        clear hL k1
        go_wp2_with fail
        go_ret2
        exact ⟨DoRes.nil _ _ _, Left.from (HK0.out.step HK1.out (by simp)) HL1.out⟩
      · skip
        by_cases x3 : x.call = 3
        · have HE := hid (show doE (absW X) x = joinC (absW X) x.id x.client x.now by unfold doE; rw [if_neg x0, if_neg x1, if_neg x2, if_pos x3])
          have HU := hid (show doU idle abs (absW X) x = joinU (absW X) x.id x.client x.now by unfold doU; rw [if_neg x0, if_neg x1, if_neg x2, if_pos x3])
          have HLL := hid (show doL (absW X) x = [] by unfold doL; rw [if_neg (by omega), if_neg (by omega)])
          rw [HE.out, HU.out, HLL.out]
          have q0 : (x.call == 0) = false := by rw [beq_eq_false_iff_ne]; exact x0
          have q1 : (x.call == 1) = false := by rw [beq_eq_false_iff_ne]; exact x1
          have q2 : (x.call == 2) = false := by rw [beq_eq_false_iff_ne]; exact x2
          have q3 : (x.call == 3) = true := by rw [beq_iff_eq]; exact x3
          clear x0 x1 x2 x3
          obtain ⟨d0, d1, d2, d3, d4, d5, d6, d7⟩ := HC.out _ (Kept.refl [] w0)
          rw [HW0.out] at d0 d1 d2 d3 d4 d5 d6 d7
          have HD := hid (join_any H.out ⟨x.id.toArray⟩ ⟨x.client.toArray⟩ HI.out.ids.1 HI.out.ids.2.2.2.2 x.now)
          go_enter Try.func20, Try.ntmps20
          go_wp2_with fail
          rw [← HW0.out]
          refine HD.out.mono ?_
          rintro e w1 ⟨rfl, hL⟩
          have HL1 := hid hL
          clear hL
          go_wp2_with fail
          go_ret2
          exact ⟨DoRes.nil _ _ _, Left.from HK0.out HL1.out⟩
        · skip
          by_cases x4 : x.call = 4
          · have HE := hid (show doE (absW X) x = endC (absW X) x.id by unfold doE; rw [if_neg x0, if_neg x1, if_neg x2, if_neg x3, if_pos x4])
            have HU := hid (show doU idle abs (absW X) x = endU (absW X) x.id by unfold doU; rw [if_neg x0, if_neg x1, if_neg x2, if_neg x3, if_pos x4])
            have HLL := hid (show doL (absW X) x = endL (absW X) x.id by unfold doL; rw [if_pos x4])
            rw [HE.out, HU.out, HLL.out]
            have q0 : (x.call == 0) = false := by rw [beq_eq_false_iff_ne]; exact x0
            have q1 : (x.call == 1) = false := by rw [beq_eq_false_iff_ne]; exact x1
            have q2 : (x.call == 2) = false := by rw [beq_eq_false_iff_ne]; exact x2
            have q3 : (x.call == 3) = false := by rw [beq_eq_false_iff_ne]; exact x3
            have q4 : (x.call == 4) = true := by rw [beq_iff_eq]; exact x4
            clear x0 x1 x2 x3 x4
            obtain ⟨d0, d1, d2, d3, d4, d5, d6, d7⟩ := HC.out _ (Kept.refl [] w0)
            rw [HW0.out] at d0 d1 d2 d3 d4 d5 d6 d7
            have HD := hid (end_any H.out ⟨x.id.toArray⟩ HI.out.ids.1)
            go_enter Try.func20, Try.ntmps20
            go_wp2_with fail
            rw [← HW0.out]
            refine HD.out.mono ?_
            rintro e w1 ⟨⟨a1, c1, rfl, s1, n1⟩, hL⟩
            have HS1 := hid s1
            have HN1 := hid n1
            have HL1 := hid hL
            clear hL s1 n1
            go_wp2_with fail
            go_ret2
            exact ⟨⟨a1, c1, rfl, HS1.out, fun i hi => Nat.le_trans HK0.out.size (HN1.out i hi)⟩, Left.from HK0.out HL1.out.left⟩
          · skip
            by_cases x5 : x.call = 5
            · have HE := hid (show doE (absW X) x = 0 by unfold doE; rw [if_neg x0, if_neg x1, if_neg x2, if_neg x3, if_neg x4, if_pos x5])
              have HU := hid (show doU idle abs (absW X) x = expU (absW X) x.now by unfold doU; rw [if_neg x0, if_neg x1, if_neg x2, if_neg x3, if_neg x4, if_pos x5])
              have HLL := hid (show doL (absW X) x = expL (absW X) x.now by unfold doL; rw [if_neg x4, if_pos x5])
              rw [HE.out, HU.out, HLL.out]
              have q0 : (x.call == 0) = false := by rw [beq_eq_false_iff_ne]; exact x0
              have q1 : (x.call == 1) = false := by rw [beq_eq_false_iff_ne]; exact x1
              have q2 : (x.call == 2) = false := by rw [beq_eq_false_iff_ne]; exact x2
              have q3 : (x.call == 3) = false := by rw [beq_eq_false_iff_ne]; exact x3
              have q4 : (x.call == 4) = false := by rw [beq_eq_false_iff_ne]; exact x4
              have q5 : (x.call == 5) = true := by rw [beq_iff_eq]; exact x5
              clear x0 x1 x2 x3 x4 x5
              obtain ⟨d0, d1, d2, d3, d4, d5, d6, d7⟩ := HC.out _ (Kept.refl [] w0)
              rw [HW0.out] at d0 d1 d2 d3 d4 d5 d6 d7
              have HD := hid (expire_any H.out x.now)
              go_enter Try.func20, Try.ntmps20
              go_wp2_with fail
              rw [← HW0.out]
              refine HD.out.mono ?_
              rintro e w1 ⟨⟨a1, c1, rfl, s1, n1⟩, hL⟩
              have HS1 := hid s1
              have HN1 := hid n1
              have HL1 := hid hL
              clear hL s1 n1
              go_wp2_with fail
              go_ret2
              exact ⟨⟨a1, c1, rfl, HS1.out, fun i hi => Nat.le_trans HK0.out.size (HN1.out i hi)⟩, Left.from HK0.out HL1.out⟩
            · skip
              have HE := hid (show doE (absW X) x = findC (absW X) x.id x.now by unfold doE; rw [if_neg x0, if_neg x1, if_neg x2, if_neg x3, if_neg x4, if_neg x5])
              have HU := hid (show doU idle abs (absW X) x = absW X by unfold doU; rw [if_neg x0, if_neg x1, if_neg x2, if_neg x3, if_neg x4, if_neg x5])
              have HLL := hid (show doL (absW X) x = [] by unfold doL; rw [if_neg x4, if_neg x5])
              rw [HE.out, HU.out, HLL.out]
              have q0 : (x.call == 0) = false := by rw [beq_eq_false_iff_ne]; exact x0
              have q1 : (x.call == 1) = false := by rw [beq_eq_false_iff_ne]; exact x1
              have q2 : (x.call == 2) = false := by rw [beq_eq_false_iff_ne]; exact x2
              have q3 : (x.call == 3) = false := by rw [beq_eq_false_iff_ne]; exact x3
              have q4 : (x.call == 4) = false := by rw [beq_eq_false_iff_ne]; exact x4
              have q5 : (x.call == 5) = false := by rw [beq_eq_false_iff_ne]; exact x5
              clear x0 x1 x2 x3 x4 x5
              obtain ⟨d0, d1, d2, d3, d4, d5, d6, d7⟩ := HC.out _ (Kept.refl [] w0)
              rw [HW0.out] at d0 d1 d2 d3 d4 d5 d6 d7
              have HD := hid (get_any H.out ⟨x.id.toArray⟩ HI.out.ids.1 x.now)
              go_enter Try.func20, Try.ntmps20
              go_wp2_with fail
              rw [← HW0.out]
              refine HD.out.mono ?_
              rintro e w1 ⟨pa, pc, ca, cc, rfl, _, _, _, _, k1⟩
              have HK1 := hid k1
              clear k1
              go_wp2_with fail
              go_ret2
              exact ⟨DoRes.nil _ _ _, Left.from HK0.out (Left.same H.out (HK1.out.alloc _))⟩

/-! ### since a world -/
/-- Since w0 nothing that lay there was written; the sessions lie in newer blocks. -/
structure St (w0 w : World) (sb mb : Nat) (idle abs : Int) (U : Sss) (p : List Nat) (wp : World) : Prop where
  st : ∃ X, SesAt w sb mb idle abs X ∧ absW X = U ∧ Kept [] w0 w ∧ (∀ i ∈ sdom sb mb X, w0.heap.size ≤ i) ∧ ∀ i ∈ p, i < w.heap.size ∧ i ∉ sdom sb mb X ∧ w.heap[i]? = wp.heap[i]?
theorem St.kept {w0 w : World} {sb mb : Nat} {idle abs : Int} {U : Sss} {p : List Nat} {wp : World} (h : St w0 w sb mb idle abs U p wp) : Kept [] w0 w := by obtain ⟨X, _, _, k, _⟩ := h.st; exact k
theorem St.good {w0 w : World} {sb mb : Nat} {idle abs : Int} {U : Sss} {p : List Nat} {wp : World} (h : St w0 w sb mb idle abs U p wp) : Good idle abs U := by obtain ⟨X, h1, rfl, _⟩ := h.st; exact h1.good
theorem St.keptN {w0 w w' : World} {sb mb : Nat} {idle abs : Int} {U : Sss} {p : List Nat} {wp : World} (h : St w0 w sb mb idle abs U p wp) (k : Kept [] w w') : St w0 w' sb mb idle abs U p wp := by
  obtain ⟨X, h1, e, k0, hd, hp⟩ := h.st
  exact ⟨X, h1.keptN k, e, k0.step k (by simp), hd, fun i hi => ⟨Nat.lt_of_lt_of_le (hp i hi).1 k.size, (hp i hi).2.1, (k.block i (hp i hi).1 (by simp)).trans (hp i hi).2.2⟩⟩
theorem St.left {w0 w w' : World} {sb mb : Nat} {idle abs : Int} {X : EXs} {U' : Sss} {p : List Nat} {wp : World} (k0 : Kept [] w0 w) (hd : ∀ i ∈ sdom sb mb X, w0.heap.size ≤ i) (hp : ∀ i ∈ p, i < w.heap.size ∧ i ∉ sdom sb mb X ∧ w.heap[i]? = wp.heap[i]?) (h : Left w w' sb mb idle abs X U') : St w0 w' sb mb idle abs U' p wp := by
  obtain ⟨X', h', e, k, hd'⟩ := h
  refine ⟨X', h', e, k0.trans k (fun i hi => .inr (hd i hi)), fun i hi => (hd' i hi).elim (hd i) (fun e => Nat.le_trans k0.size e), fun i hi => ?_⟩
  obtain ⟨h1, h2, h3⟩ := hp i hi
  refine ⟨Nat.lt_of_lt_of_le h1 k.size, fun hm => ?_, (k.block i h1 h2).trans h3⟩
  rcases hd' i hm with e | e
  · exact h2 e
  · omega
theorem St.free {w0 w : World} {sb mb : Nat} {idle abs : Int} {U : Sss} {p : List Nat} {wp : World} (h : St w0 w sb mb idle abs U p wp) : St w0 w sb mb idle abs U [] w := by
  obtain ⟨X, h1, e, k0, hd, _⟩ := h.st
  exact ⟨X, h1, e, k0, hd, by simp⟩
/-- New blocks are protected from now on. -/
theorem St.guard {w0 w w' : World} {sb mb : Nat} {idle abs : Int} {U : Sss} {p : List Nat} {wp : World} (h : St w0 w sb mb idle abs U p wp) (k : Kept [] w w') (q : List Nat) (hq : ∀ i ∈ q, w.heap.size ≤ i ∧ i < w'.heap.size) : St w0 w' sb mb idle abs U q w' := by
  obtain ⟨X, h1, e, k0, hd, _⟩ := h.st
  exact ⟨X, h1.keptN k, e, k0.step k (by simp), hd, fun i hi => ⟨(hq i hi).2, fun hm => by have := h1.lt i hm; have := (hq i hi).1; omega, rfl⟩⟩
theorem strs_pin {w w' : World} {a : Option Addr} {l : List Str} (h : StrsAt w a l) (hp : 0 < l.length → ∀ i ∈ fp a, w'.heap[i]? = w.heap[i]?) : StrsAt w' a l := by
  refine ⟨?_, h.few⟩
  rcases h.cells with h0 | ⟨b, off, rfl, hb, hc⟩
  · exact .inl h0
  · rcases Nat.eq_zero_or_pos l.length with e0 | e0
    · exact .inl (List.length_eq_zero_iff.1 e0)
    have hbb := hp e0 b (by simp [fp])
    refine .inr ⟨b, off, rfl, ?_, fun i hi j v hv => ?_⟩
    · have h1 : w.heap[b]? = some w.heap[b] := Array.getElem?_eq_getElem hb
      rw [h1] at hbb
      exact lt_of_heap hbb
    · rw [World.cell?_of_block (w := w) hbb]
      exact hc i hi j v hv
theorem Kept.bel {w0 w : World} (k : Kept [] w0 w) : Below w0.heap.size w0 w := k.toBelow (by simp)
theorem new_st {w0 w : World} (k0 : Kept [] w0 w) {idle abs : Int} (hc : newC idle abs = 0) : Calls Try.prog 8 #[.int .i64 idle, .int .i64 abs] w fun e w' => ∃ sb mb, e = .returned (.tuple #[.pointer (some ⟨sb, 0, none⟩), .int .i64 0]) ∧ St w0 w' sb mb (lim idle) (lim abs) [] [] w' := by
  refine (new_ok hc w).mono ?_
  rintro e w' ⟨rfl, h, k, hz⟩
  exact ⟨_, _, rfl, [], h, rfl, k0.step k (by simp), fun i hi => by
    have := k0.size
    simp [sdom, pdom] at hi
    omega, by simp⟩
section
variable {w0 w : World} {sb mb : Nat} {idle abs : Int} {U : Sss} {p : List Nat} {wp : World}
theorem do_st (h : St w0 w sb mb idle abs U p wp) (x : OpD) (hs : Small x) (hl : PrfsAt w x.pa x.proofs) :
    Calls Try.prog 20 #[.pointer (some ⟨sb, 0, none⟩), .agg #[.int .i64 x.call, .int .i64 x.now, .string ⟨x.id.toArray⟩, .string ⟨x.user.toArray⟩, .string ⟨x.tenant.toArray⟩, .string ⟨x.device.toArray⟩, .string ⟨x.client.toArray⟩, .slice x.pa x.proofs.length x.pc]] w fun e w' => DoRes w w' e (doL U x) (doE U x) ∧ St w0 w' sb mb idle abs (doU idle abs U x) p wp := by
  obtain ⟨X, h1, rfl, k0, hd, hp⟩ := h.st
  exact (do_any h1 x hs hl).mono fun _ _ ⟨e, hL⟩ => ⟨e, St.left k0 hd hp hL⟩
theorem start_st (h : St w0 w sb mb idle abs U p wp) (s user tenant device : ByteArray) (hs : s.size ≤ maxLen) (hu : user.size ≤ maxLen) (ht : tenant.size ≤ maxLen) (hv : device.size ≤ maxLen) {a : Option Addr} {cap : Nat} {l : List Prf} (hl : PrfsAt w a l) (hlen : l.length ≤ 100) (now : Int) {c : Int} (hc : startC U s.data.toList user.data.toList tenant.data.toList device.data.toList l = c) :
    Calls Try.prog 9 #[.pointer (some ⟨sb, 0, none⟩), .string s, .string user, .string tenant, .string device, .slice a l.length cap, .int .i64 now] w fun e w' => e = .returned (.int .i64 c) ∧ St w0 w' sb mb idle abs (startU idle abs U s.data.toList user.data.toList tenant.data.toList device.data.toList l now) p wp := by
  obtain ⟨X, h1, rfl, k0, hd, hp⟩ := h.st
  subst hc
  exact (start_any h1 s user tenant device hs hu ht hv hl hlen now).mono fun _ _ ⟨e, hL⟩ => ⟨e, St.left k0 hd hp hL⟩
theorem touch_st (h : St w0 w sb mb idle abs U p wp) (s : ByteArray) (hs : s.size ≤ maxLen) (now : Int) {c : Int} (hc : findC U s.data.toList now = c) :
    Calls Try.prog 28 #[.pointer (some ⟨sb, 0, none⟩), .string s, .int .i64 now] w fun e w' => e = .returned (.int .i64 c) ∧ St w0 w' sb mb idle abs (touchU idle abs U s.data.toList now) p wp := by
  obtain ⟨X, h1, rfl, k0, hd, hp⟩ := h.st
  subst hc
  exact (touch_any h1 s hs now).mono fun _ _ ⟨e, hL⟩ => ⟨e, St.left k0 hd hp hL⟩
theorem present_st (h : St w0 w sb mb idle abs U p wp) (s : ByteArray) (hs : s.size ≤ maxLen) (q : Prf) (now : Int) {c : Int} (hc : presC U s.data.toList q now = c) :
    Calls Try.prog 29 #[.pointer (some ⟨sb, 0, none⟩), .string s, prfV q, .int .i64 now] w fun e w' => e = .returned (.int .i64 c) ∧ St w0 w' sb mb idle abs (presU U s.data.toList q now) p wp := by
  obtain ⟨X, h1, rfl, k0, hd, hp⟩ := h.st
  subst hc
  exact (present_any h1 s hs q now).mono fun _ _ ⟨e, hL⟩ => ⟨e, St.left k0 hd hp hL⟩
theorem join_st (h : St w0 w sb mb idle abs U p wp) (s cl : ByteArray) (hs : s.size ≤ maxLen) (hcl : cl.size ≤ maxLen) (now : Int) {c : Int} (hc : joinC U s.data.toList cl.data.toList now = c) :
    Calls Try.prog 12 #[.pointer (some ⟨sb, 0, none⟩), .string s, .string cl, .int .i64 now] w fun e w' => e = .returned (.int .i64 c) ∧ St w0 w' sb mb idle abs (joinU U s.data.toList cl.data.toList now) p wp := by
  obtain ⟨X, h1, rfl, k0, hd, hp⟩ := h.st
  subst hc
  exact (join_any h1 s cl hs hcl now).mono fun _ _ ⟨e, hL⟩ => ⟨e, St.left k0 hd hp hL⟩
/-- End; its list is protected from now on. -/
theorem end_st (h : St w0 w sb mb idle abs U p wp) (s : ByteArray) (hs : s.size ≤ maxLen) {c : Int} {l : List Str} (hc : endC U s.data.toList = c) (hl : endL U s.data.toList = l) :
    Calls Try.prog 27 #[.pointer (some ⟨sb, 0, none⟩), .string s] w fun e w' => ∃ a cap, e = .returned (.tuple #[.slice a l.length cap, .int .i64 c]) ∧ StrsAt w' a l ∧ (∀ i ∈ p, w'.heap[i]? = wp.heap[i]?) ∧ St w0 w' sb mb idle abs (endU U s.data.toList) (if 0 < l.length then p ++ fp a else p) w' := by
  obtain ⟨X, h1, rfl, k0, hd, hp⟩ := h.st
  subst hc
  subst hl
  refine (end_any h1 s hs).mono ?_
  rintro e w' ⟨⟨a, cap, rfl, st, hn⟩, X', h', e', k, hs'⟩
  refine ⟨a, cap, rfl, st, fun i hi => ?_, X', h', e', k0.trans k (fun i hi => .inr (hd i hi)), fun i hi => hd i (hs' i hi), fun i hi => ?_⟩
  · obtain ⟨h1, h2, h3⟩ := hp i hi
    exact (k.block i h1 h2).trans h3
  · have hold : ∀ j ∈ p, j < w'.heap.size ∧ j ∉ sdom sb mb X' ∧ w'.heap[j]? = w'.heap[j]? := fun j hj => by
      obtain ⟨h1, h2, h3⟩ := hp j hj
      exact ⟨Nat.lt_of_lt_of_le h1 k.size, fun hm => h2 (hs' j hm), rfl⟩
    split at hi
    · rename_i hlen
      rcases List.mem_append.1 hi with hi | hi
      · exact hold i hi
      · refine ⟨?_, fun hm => ?_, rfl⟩
        · obtain ⟨b, off, rfl, hb, _⟩ := st.at (i := 0) hlen
          simp [fp] at hi
          omega
        · have := h1.lt i (hs' i hm)
          have := hn i hi
          omega
    · exact hold i hi
theorem expire_st (h : St w0 w sb mb idle abs U p wp) (now : Int) {l : List Str} (hl : expL U now = l) :
    Calls Try.prog 16 #[.pointer (some ⟨sb, 0, none⟩), .int .i64 now] w fun e w' => (∃ a c, e = .returned (.slice a l.length c) ∧ StrsAt w' a l ∧ ∀ i ∈ fp a, w.heap.size ≤ i) ∧ St w0 w' sb mb idle abs (expU U now) p wp := by
  obtain ⟨X, h1, rfl, k0, hd, hp⟩ := h.st
  subst hl
  exact (expire_any h1 now).mono fun _ _ ⟨e, hL⟩ => ⟨e, St.left k0 hd hp hL⟩
theorem get_st (h : St w0 w sb mb idle abs U p wp) (s : ByteArray) (hs : s.size ≤ maxLen) (now : Int) {r : Str × Sess} {c : Int} (hc : findC U s.data.toList now = c) (hr : getR U s.data.toList now = r) :
    Calls Try.prog 13 #[.pointer (some ⟨sb, 0, none⟩), .string s, .int .i64 now] w fun e w' => Got w w' e r c := by
  obtain ⟨X, h1, rfl, k0, hd, hp⟩ := h.st
  subst hc
  subst hr
  exact get_any h1 s hs now
theorem of_st (h : St w0 w sb mb idle abs U p wp) (u : ByteArray) (now : Int) {l : List Str} (hl : ofL U u.data.toList now = l) :
    Calls Try.prog 15 #[.pointer (some ⟨sb, 0, none⟩), .string u, .int .i64 now] w fun e w' => Gives w w' e l := by
  obtain ⟨X, h1, rfl, k0, hd, hp⟩ := h.st
  subst hl
  exact of_any h1 u now
theorem len_st (h : St w0 w sb mb idle abs U p wp) {n : Nat} (hn : lenN U = n) :
    Calls Try.prog 14 #[.pointer (some ⟨sb, 0, none⟩)] w fun e w' => e = .returned (.int .i64 n) ∧ Kept [] w w' := by
  obtain ⟨X, h1, rfl, k0, hd, hp⟩ := h.st
  subst hn
  exact len_any h1
end
end Go.Proofs.Ytakccoiecmibcaa
