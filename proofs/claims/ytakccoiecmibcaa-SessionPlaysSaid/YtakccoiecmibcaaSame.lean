/- Same of the reference: equal sessions. Printed by gen_kept.py. -/
import Derived.Test.YtakccoiecmibcaaBounded
namespace Go.Proofs.Ytakccoiecmibcaa
open Go.RowKit Go.Maps

/-! ### Same of the reference -/
set_option maxHeartbeats 4000000 in
set_option maxRecDepth 100000 in
theorem sameX_any {w : World} (r : Str × Sess) {pa1 pa2 ca1 ca2 : Option Addr} {pc1 pc2 cc1 cc2 : Nat} (h1 : PrfsAt w pa1 r.2.proofs) (h2 : PrfsAt w pa2 r.2.proofs) (h3 : StrsAt w ca1 r.2.clients) (h4 : StrsAt w ca2 r.2.clients) :
    Calls Try.prog 23 #[sessA r.1 r.2 pa1 pc1 ca1 cc1, sessA r.1 r.2 pa2 pc2 ca2 cc2] w fun e w' => e = .returned (.bool true) ∧ Kept [] w w' := by
  have hf := h1.few
  unfold maxLen at hf
  obtain ⟨n, hn⟩ : ∃ n, n = r.2.proofs.length := ⟨_, rfl⟩
  obtain ⟨m, hm⟩ : ∃ m, m = r.2.clients.length := ⟨_, rfl⟩
  have k := ((Kept.refl [] w).alloc (.cells #[.string ⟨r.1.toArray⟩, .string ⟨r.2.user.toArray⟩, .string ⟨r.2.tenant.toArray⟩, .string ⟨r.2.device.toArray⟩, .int .i64 r.2.started, .int .i64 r.2.seen, .int .i64 r.2.until_, .slice pa1 n pc1, .slice ca1 m cc1] 33 (0, 0))).alloc (.cells #[.string ⟨r.1.toArray⟩, .string ⟨r.2.user.toArray⟩, .string ⟨r.2.tenant.toArray⟩, .string ⟨r.2.device.toArray⟩, .int .i64 r.2.started, .int .i64 r.2.seen, .int .i64 r.2.until_, .slice pa2 n pc2, .slice ca2 m cc2] 33 (0, 0))
  have hb2 := heap_alloc_new (w.alloc (.cells #[.string ⟨r.1.toArray⟩, .string ⟨r.2.user.toArray⟩, .string ⟨r.2.tenant.toArray⟩, .string ⟨r.2.device.toArray⟩, .int .i64 r.2.started, .int .i64 r.2.seen, .int .i64 r.2.until_, .slice pa1 n pc1, .slice ca1 m cc1] 33 (0, 0))) (.cells #[.string ⟨r.1.toArray⟩, .string ⟨r.2.user.toArray⟩, .string ⟨r.2.tenant.toArray⟩, .string ⟨r.2.device.toArray⟩, .int .i64 r.2.started, .int .i64 r.2.seen, .int .i64 r.2.until_, .slice pa2 n pc2, .slice ca2 m cc2] 33 (0, 0))
  have hb1 := (Below.heap_alloc (w.alloc (.cells #[.string ⟨r.1.toArray⟩, .string ⟨r.2.user.toArray⟩, .string ⟨r.2.tenant.toArray⟩, .string ⟨r.2.device.toArray⟩, .int .i64 r.2.started, .int .i64 r.2.seen, .int .i64 r.2.until_, .slice pa1 n pc1, .slice ca1 m cc1] 33 (0, 0))) (.cells #[.string ⟨r.1.toArray⟩, .string ⟨r.2.user.toArray⟩, .string ⟨r.2.tenant.toArray⟩, .string ⟨r.2.device.toArray⟩, .int .i64 r.2.started, .int .i64 r.2.seen, .int .i64 r.2.until_, .slice pa2 n pc2, .slice ca2 m cc2] 33 (0, 0)) w.heap.size (by simp)).trans (heap_alloc_new w _)
  rw [show (w.alloc (.cells #[.string ⟨r.1.toArray⟩, .string ⟨r.2.user.toArray⟩, .string ⟨r.2.tenant.toArray⟩, .string ⟨r.2.device.toArray⟩, .int .i64 r.2.started, .int .i64 r.2.seen, .int .i64 r.2.until_, .slice pa1 n pc1, .slice ca1 m cc1] 33 (0, 0))).heap.size = w.heap.size + 1 by simp] at hb2
  obtain ⟨w2, HW2⟩ : ∃ w2, Hid (w2 = (w.alloc (.cells #[.string ⟨r.1.toArray⟩, .string ⟨r.2.user.toArray⟩, .string ⟨r.2.tenant.toArray⟩, .string ⟨r.2.device.toArray⟩, .int .i64 r.2.started, .int .i64 r.2.seen, .int .i64 r.2.until_, .slice pa1 n pc1, .slice ca1 m cc1] 33 (0, 0))).alloc (.cells #[.string ⟨r.1.toArray⟩, .string ⟨r.2.user.toArray⟩, .string ⟨r.2.tenant.toArray⟩, .string ⟨r.2.device.toArray⟩, .int .i64 r.2.started, .int .i64 r.2.seen, .int .i64 r.2.until_, .slice pa2 n pc2, .slice ca2 m cc2] 33 (0, 0))) := ⟨_, hid rfl⟩
  rw [← HW2.out] at k hb1 hb2
  have HK := hid k
  have HB1 := hid hb1
  have HB2 := hid hb2
  have H1 := hid (h1.keptN k)
  have H2 := hid (h2.keptN k)
  have H3 := hid (h3.keptN k)
  have H4 := hid (h4.keptN k)
  have HNC := hid (fun wq (kq : Kept [] w2 wq) => And.intro (nine_cells (kq.at HB1.out (by simp))) (nine_cells (kq.at HB2.out (by simp))))
  have HSS := hid (fun wq (kq : Kept [] w2 wq) => sameS_any (cap := cc1) (cap2 := cc2) (H3.out.keptN kq) (H4.out.keptN kq))
  simp only [sessA]
  rw [← hn, ← hm]
  rw [← hm] at HSS
  obtain ⟨⟨a0, a1, a2, a3, a4, a5, a6, a7, a8, _⟩, ⟨b0, b1, b2, b3, b4, b5, b6, b7, b8, _⟩⟩ := HNC.out w2 (Kept.refl [] w2)
  rw [HW2.out] at a0 a1 a2 a3 a4 a5 a6 a7 a8 b0 b1 b2 b3 b4 b5 b6 b7 b8
  have q0 : (r.1 != r.1) = false := by simp
  have q1 : (r.2.user != r.2.user) = false := by simp
  have q2 : (r.2.tenant != r.2.tenant) = false := by simp
  have q3 : (r.2.device != r.2.device) = false := by simp
  have e0 : (r.1 == r.1) = true := beq_self_eq_true _
  have e1 : (r.2.user == r.2.user) = true := beq_self_eq_true _
  have e2 : (r.2.tenant == r.2.tenant) = true := beq_self_eq_true _
  have e3 : (r.2.device == r.2.device) = true := beq_self_eq_true _
  clear h1 h2 h3 h4 k hb1 hb2
  have hnl := hid hn
  have hfn : n ≤ 2 ^ 63 - 1 := by omega
  clear hn hm hf
  go_enter Try.func23, Try.ntmps23
  go_wp2_with fail
  rw [← HW2.out]
  clear a0 a1 a2 a3 a4 a5 a6 a7 a8 b0 b1 b2 b3 b4 b5 b6 b7 b8
  go_loopw [5] (fun i wr => ∃ j n' : Nat, j ≤ n ∧ i = .int .i64 j ∧ wr = w2.drewN n') (fun i _ => n - (intOf i).toNat)
  case atStart => exact ⟨0, 0, Nat.zero_le _, rfl, rfl⟩
  case round =>
    obtain ⟨j, n', hj, rfl, rfl⟩ := hrel
    have KD := hid ((Kept.refl [] w2).drewN n')
    obtain ⟨⟨a0, a1, a2, a3, a4, a5, a6, a7, a8, _⟩, ⟨b0, b1, b2, b3, b4, b5, b6, b7, b8, _⟩⟩ := HNC.out _ (Kept.refl [] w2)
    by_cases hlt : j < n
    · have hlt2 : j < r.2.proofs.length := by rw [← hnl.out]; exact hlt
      obtain ⟨g1, off1, rfl, hg1, c0, c1⟩ := PrfsAt.get H1.out hlt2
      obtain ⟨g2, off2, rfl, hg2, d0, d1⟩ := PrfsAt.get H2.out hlt2
      have hj1 : (0 : Int) ≤ j := by omega
      have hj2 : (j : Int) < n := by omega
      generalize r.2.proofs[j] = p at *
      have z0 : (p.1 == p.1) = true := beq_self_eq_true _
      have z1 : (p.2 == p.2) = true := beq_self_eq_true _
      go_wp2_with fail
      go_quiet (fail)
      go_wp2_with fail
      go_roundw
      case rel => exact ⟨j + 1, _, by omega, by go_num, rfl⟩
      case measure => simp [intOf]; omega
    · have hj2 : ¬ ((j : Int) < n) := by omega
      have HS := hid (HSS.out _ KD.out)
      go_wp2_with fail
      refine HS.out.mono ?_
      rintro e w4 ⟨rfl, hd4⟩
      have K4 := hid hd4.kept
      clear hd4
      go_wp2_with fail
      go_ret
      exact ⟨rfl, HK.out.step (KD.out.step K4.out (by simp)) (by simp)⟩
end Go.Proofs.Ytakccoiecmibcaa
