/- live: the chapter's examples. -/
import Derived.Test.YtmipnhdfhgekkaaSame
namespace Go.Proofs.Ytmipnhdfhgekkaa
open Go.RowKit

theorem prfs_lit {w : World} {b : Nat} {cs : Array Value} {t : TypeId} {l : List Prf} (h : w.heap[b]? = some (.cells cs t (0, 0))) (hc : cs.toList = prfsV l) (hl : l.length ≤ maxLen) : PrfsAt w (some ⟨b, 0, none⟩) l := by
  refine ⟨.inr ⟨b, 0, rfl, lt_of_heap h, fun i hi => ?_⟩, hl⟩
  obtain ⟨e1, e2⟩ := prfsV_get l i hi
  exact ⟨by rw [Nat.zero_add, cell_at h, ← Array.getElem?_toList, hc]; exact e1, by rw [Nat.zero_add, cell_at h, ← Array.getElem?_toList, hc]; exact e2⟩
theorem prfs_nil (w : World) : PrfsAt w none [] := ⟨.inl rfl, Nat.zero_le _⟩
theorem ownF_at {w0 w : World} {a : Option Addr} {cap : Nat} {l : List Int} (h : OwnF w0 w a cap l) (h0 : 0 < l.length) : ∃ g, a = some ⟨g, 0, none⟩ ∧ ∀ i (hi : i < l.length), w.cell? ⟨g, i, none⟩ = some (.int .i64 l[i]) := by
  obtain ⟨g, cur, rfl, hg, h1, h2, _⟩ := row_some h.row h0
  exact ⟨g, rfl, fun i hi => row_cell h.row (by simp [intsV, hi])⟩
theorem own_at {w0 w : World} {a : Option Addr} {cap : Nat} {l : List Prf} (h : Own w0 w a cap l) (h0 : 0 < l.length) : ∃ g, a = some ⟨g, 0, none⟩ ∧ ∀ i (hi : i < l.length), w.cell? ⟨g, i * 2, none⟩ = some (.int .i64 l[i].1) ∧ w.cell? ⟨g, i * 2 + 1, none⟩ = some (.int .i64 l[i].2) := by
  obtain ⟨g, cur, rfl, hg, h1, h2, _⟩ := row_some h.row h0
  refine ⟨g, rfl, fun i hi => ?_⟩
  obtain ⟨e1, e2⟩ := prfsV_get l i hi
  exact ⟨row_cell h.row e1, row_cell h.row e2⟩

theorem kc {w w' : World} {p : Addr} {v : Value} (k : Kept [] w w') (h : w.cell? p = some v) : w'.cell? p = some v := (k.cell (World.block_lt_of_cell? w _ h) (by simp)).trans h
theorem proof_any' (f t : Int) (w : World) :
    Calls Try.prog 25 #[.int .i64 f, .int .i64 t] w fun e w' => e = .returned (.agg #[.int .i64 f, .int .i64 t]) ∧ Kept [] w w' := proof_any f t w

set_option maxHeartbeats 8000000 in
set_option maxRecDepth 100000 in
theorem live_any (w : World) :
    Calls Try.prog 10 #[] w fun e w' => e = .returned (.bool true) ∧ Kept [] w w' := by
  go_enter Try.func10, Try.ntmps10
  go_wp2_with fail
  refine (proof_any _ _ _).mono ?_
  rintro e w1 ⟨rfl, k1⟩
  go_wp2_with fail
  refine (proof_any _ _ _).mono ?_
  rintro e w2 ⟨rfl, k2⟩
  have kA := (Kept.refl [] w2).alloc (.cells #[.int .i64 1, .int .i64 50, .int .i64 4, .int .i64 90] 36 (0, 0))
  have hl := prfs_lit (l := [((1 : Int), (50 : Int)), ((4 : Int), (90 : Int))]) (heap_alloc_new w2 (.cells #[.int .i64 1, .int .i64 50, .int .i64 4, .int .i64 90] 36 (0, 0))) rfl (by decide)
  go_wp2_with fail
  refine (needed_any (prfs_nil _) (by decide) 2 10 100).mono ?_
  rintro e w3 ⟨a3, c3, rfl, o3⟩
  rw [show needL [] 2 10 100 = [1, 2] by decide] at o3 ⊢
  rw [show needE 2 = 0 by decide]
  have k3 := o3.kept
  go_wp2_with fail
  refine (proof_any _ _ _).mono ?_
  rintro e w4 ⟨rfl, k4⟩
  have kB := (Kept.refl [] w4).alloc (.cells #[.int .i64 2, .int .i64 100] 36 (0, 0))
  have hl2 := prfs_lit (l := [((2 : Int), (100 : Int))]) (heap_alloc_new w4 (.cells #[.int .i64 2, .int .i64 100] 36 (0, 0))) rfl (by decide)
  go_wp2_with fail
  refine (needed_any hl2 (by decide) 3 10 100).mono ?_
  rintro e w5 ⟨a5, c5, rfl, o5⟩
  rw [show needL [((2 : Int), (100 : Int))] 3 10 100 = [1, 3] by decide] at o5 ⊢
  rw [show needE 3 = 0 by decide]
  have k5 := o5.kept
  go_wp2_with fail
  refine (needed_any (prfs_nil _) (by decide) 4 0 0).mono ?_
  rintro e w6 ⟨a6, c6, rfl, o6⟩
  have k6 := o6.kept
  rw [show needE 4 = 27 by decide]
  go_wp2_with fail
  refine (proof_any _ _ _).mono ?_
  rintro e w7 ⟨rfl, k7⟩
  go_wp2_with fail
  refine (add_any (hl.kept (((((k3.step k4 (by simp)).step kB (by simp)).step k5 (by simp)).step k6 (by simp)).step k7 (by simp))) (by decide) ((1 : Int), (60 : Int))).mono ?_
  rintro e w8 h8
  obtain ⟨a8, c8, rfl, o8⟩ := h8.ok (by decide)
  rw [show delL [((1 : Int), (50 : Int)), ((4 : Int), (90 : Int))] 1 ++ [((1 : Int), (60 : Int))] = [((4 : Int), (90 : Int)), ((1 : Int), (60 : Int))] by decide] at o8 ⊢
  have k8 := o8.kept
  go_wp2_with fail
  refine (proof_any _ _ _).mono ?_
  rintro e w9 ⟨rfl, k9⟩
  go_wp2_with fail
  refine (add_any (prfs_nil _) (by decide) ((9 : Int), (0 : Int))).mono ?_
  rintro e w10 h10
  obtain ⟨rfl, k10⟩ := h10.err (by decide)
  rw [show addE ((9 : Int), (0 : Int)) = 2 by decide]
  go_wp2_with fail
  refine (proof_any _ _ _).mono ?_
  rintro e w11 ⟨rfl, k11⟩
  go_wp2_with fail
  refine (proof_any _ _ _).mono ?_
  rintro e w12 ⟨rfl, k12⟩
  go_wp2_with fail
  refine (proof_any _ _ _).mono ?_
  rintro e w13 ⟨rfl, k13⟩
  have kC := (Kept.refl [] w13).alloc (.cells #[.int .i64 1, .int .i64 90, .int .i64 2, .int .i64 89, .int .i64 3, .int .i64 120] 36 (0, 0))
  have hl3 := prfs_lit (l := [((1 : Int), (90 : Int)), ((2 : Int), (89 : Int)), ((3 : Int), (120 : Int))]) (heap_alloc_new w13 (.cells #[.int .i64 1, .int .i64 90, .int .i64 2, .int .i64 89, .int .i64 3, .int .i64 120] 36 (0, 0))) rfl (by decide)
  go_wp2_with fail
  refine (fresh_any hl3 100 10 (by decide)).mono ?_
  rintro e w14 ⟨a14, c14, rfl, o14⟩
  rw [show freshL [((1 : Int), (90 : Int)), ((2 : Int), (89 : Int)), ((3 : Int), (120 : Int))] 100 10 = [((1 : Int), (90 : Int)), ((3 : Int), (120 : Int))] by decide] at o14 ⊢
  have k14 := o14.kept
  have hl14 := hl.kept (((((((((((((k3.step k4 (by simp)).step kB (by simp)).step k5 (by simp)).step k6 (by simp)).step k7 (by simp)).step k8 (by simp)).step k9 (by simp)).step k10 (by simp)).step k11 (by simp)).step k12 (by simp)).step k13 (by simp)).step kC (by simp)).step k14 (by simp))
  have h314 := o3.later ((((((((((((k4.step kB (by simp)).step k5 (by simp)).step k6 (by simp)).step k7 (by simp)).step k8 (by simp)).step k9 (by simp)).step k10 (by simp)).step k11 (by simp)).step k12 (by simp)).step k13 (by simp)).step kC (by simp)).step k14 (by simp))
  have h514 := o5.later (((((((((k6.step k7 (by simp)).step k8 (by simp)).step k9 (by simp)).step k10 (by simp)).step k11 (by simp)).step k12 (by simp)).step k13 (by simp)).step kC (by simp)).step k14 (by simp))
  have h814 := o8.later ((((((k9.step k10 (by simp)).step k11 (by simp)).step k12 (by simp)).step k13 (by simp)).step kC (by simp)).step k14 (by simp))
  obtain ⟨g3, rfl, c3f⟩ := ownF_at h314 (by decide)
  obtain ⟨g5, rfl, c5f⟩ := ownF_at h514 (by decide)
  obtain ⟨g8, rfl, c8f⟩ := own_at h814 (by decide)
  obtain ⟨g14, rfl, c14f⟩ := own_at o14 (by decide)
  have f0 := c3f 0 (by decide)
  have f1 := c3f 1 (by decide)
  have q1 := c5f 1 (by decide)
  obtain ⟨m0, m1⟩ := c8f 1 (by decide)
  obtain ⟨_, n1⟩ := c14f 1 (by decide)
  simp only [List.getElem_cons_zero, List.getElem_cons_succ] at f0 f1 q1 m0 m1 n1
  have kall := ((((((((((((((((k1.step k2 (by simp)).step kA (by simp)).step k3 (by simp)).step k4 (by simp)).step kB (by simp)).step k5 (by simp)).step k6 (by simp)).step k7 (by simp)).step k8 (by simp)).step k9 (by simp)).step k10 (by simp)).step k11 (by simp)).step k12 (by simp)).step k13 (by simp)).step kC (by simp)).step k14 (by simp))
  have hall := hid (show ∀ wq, Kept [] w14 wq → (fun w' => w'.cell? ⟨g3, 0, none⟩ = some (.int .i64 1) ∧ w'.cell? ⟨g3, 1, none⟩ = some (.int .i64 2) ∧ w'.cell? ⟨g5, 1, none⟩ = some (.int .i64 3) ∧ w'.cell? ⟨g8, 2, none⟩ = some (.int .i64 1) ∧ w'.cell? ⟨g8, 3, none⟩ = some (.int .i64 60) ∧ w'.cell? ⟨g14, 3, none⟩ = some (.int .i64 120)) wq from fun wq k => ⟨kc k f0, kc k f1, kc k q1, kc k m0, kc k m1, kc k n1⟩)
  have j0 : Kept [] w14 w14.drew := (Kept.refl [] w14).drew
  have hs0 := hl14.kept j0
  have hm0 := h814.seq
  clear k1 k2 kA k3 k4 kB k5 k6 k7 k8 k9 k10 k11 k12 k13 kC k14 c3f c5f c8f c14f f0 f1 q1 m0 m1 n1 o3 o5 o6 o8 o14 h314 h514 hl hl2 hl3 h8 h10 hl14 h814
  go_wp2_with fail
  simp only [List.append_eq, List.cons_append, List.nil_append]
  go_region_held3 (fun w' => w'.cell? ⟨g3, 0, none⟩ = some (.int .i64 1) ∧ w'.cell? ⟨g3, 1, none⟩ = some (.int .i64 2) ∧ w'.cell? ⟨g5, 1, none⟩ = some (.int .i64 3) ∧ w'.cell? ⟨g8, 2, none⟩ = some (.int .i64 1) ∧ w'.cell? ⟨g8, 3, none⟩ = some (.int .i64 60) ∧ w'.cell? ⟨g14, 3, none⟩ = some (.int .i64 120))
    (first | (exact hall.out _ j5) | (exact hall.out _ j4) | (exact hall.out _ j3) | (exact hall.out _ j2) | (exact hall.out _ j1) | (exact hall.out _ j0))
    (first
      | (go_at_call 11; refine (level_any hs0).mono ?_; rw [show levelL [((1 : Int), (50 : Int)), ((4 : Int), (90 : Int))] = 1 by decide]; rintro e w15 ⟨rfl, k15⟩; have j1 := j0.step k15 (by simp); have hs1 := hs0.kept k15)
      | (go_at_call 13; refine (auth_any hs1).mono ?_; rw [show authL [((1 : Int), (50 : Int)), ((4 : Int), (90 : Int))] = 50 by decide]; rintro e w16 ⟨rfl, k16⟩; have j2 := j1.step k16 (by simp))
      | (go_at_call 25; refine (proof_any' _ _ _).mono ?_; rintro e w17 ⟨rfl, k17⟩; have j3 := j2.step k17 (by simp); have hm1 := hm0.kept j3)
      | (go_at_call 18; refine (meets_any hm2 (by decide) 2 50 100).mono ?_; rw [show meetsB [((4 : Int), (90 : Int)), ((1 : Int), (60 : Int))] 2 50 100 = false by decide]; rintro e w19 ⟨rfl, k19⟩; have j5 := j4.step k19 (by simp))
      | (go_at_call 18; refine (meets_any hm1 (by decide) 1 50 100).mono ?_; rw [show meetsB [((4 : Int), (90 : Int)), ((1 : Int), (60 : Int))] 1 50 100 = true by decide]; rintro e w18 ⟨rfl, k18⟩; have j4 := j3.step k18 (by simp); have hm2 := hm1.kept k18))
  go_wp2_with fail
  go_ret
  exact ⟨rfl, kall.step j5 (by simp)⟩
end Go.Proofs.Ytmipnhdfhgekkaa
