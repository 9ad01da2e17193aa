/- StrengthAdds: the walk. -/
import Derived.Test.YtmipnhdfhgekkaaPlain
import Derived.IntWalk
import Derived.Deep.RegionHeld3
namespace Go.Proofs.Ytmipnhdfhgekkaa
open Go.RowKit

theorem Added.kept {w w' : World} {e : Ending} {l : List Prf} {p : Prf} (h : Added w w' e l p) : Kept [] w w' := by
  by_cases h0 : addE p = 0
  · obtain ⟨_, _, _, o⟩ := h.ok h0; exact o.kept
  · exact (h.err h0).2
theorem prf_box (w : World) (p : Prf) : CPrf (w.alloc (.cells #[.int .i64 p.1, .int .i64 p.2] 36 (0, 0))) w.heap.size 0 p := by
  have h := heap_alloc_new w (.cells #[.int .i64 p.1, .int .i64 p.2] 36 (0, 0))
  exact ⟨by rw [cell_at h]; rfl, by rw [cell_at h]; rfl⟩
structure Start (w w0 : World) (a : Option Addr) (l : List Prf) (p : Prf) : Prop where
  prfs : PrfsAt w0 a l
  box : CPrf w0 w.heap.size 0 p
  kept : Kept [] w w0
theorem many_start {w : World} {a : Option Addr} {cap : Nat} {l : List Prf} (h : PrfsAt w a l) (p : Prf) :
    Calls Try.prog 9 #[.slice a l.length cap] (w.alloc (.cells #[.int .i64 p.1, .int .i64 p.2] 36 (0, 0))) fun e w' => e = .returned (.bool (decide (20 < l.length))) ∧ Start w w' a l p := by
  refine (many_any _).mono ?_
  rintro e w' ⟨rfl, rfl⟩
  exact ⟨rfl, h.kept ((Kept.refl [] w).alloc _), prf_box w p, (Kept.refl [] w).alloc _⟩
set_option maxHeartbeats 1000000 in
set_option maxRecDepth 100000 in
theorem adds_walk {w : World} {a : Option Addr} {cap : Nat} {l : List Prf} (h : PrfsAt w a l ∧ l.length ≤ cap ∧ cap ≤ maxLen) (p : Prf) (_hp : True) :
    Calls Try.prog 6 #[.slice a l.length cap, prfV p] w fun e w' => e = .returned (.bool true) ∧ Below w.heap.size w w' := by
  have hp := h.1
  clear h _hp
  by_cases hm : 20 < l.length
  · have HM : decide (20 < l.length) = true := by simpa using hm
    have HL := hid (many_start (cap := cap) hp p)
    rw [HM] at HL
    go_enter Try.func6, Try.ntmps6
    go_wp2_with (first
      | (go_at_call 9; refine HL.out.mono ?_; rintro e w0 ⟨rfl, hs⟩)
      | (go_at_call 10; refine (live_any _).mono ?_; rintro e w1 ⟨rfl, k1⟩))
    go_ret
    exact ⟨rfl, (hs.kept.step k1 (by simp)).bel⟩
  have HM : decide (20 < l.length) = false := by simpa using hm
  have HL := hid (many_start (cap := cap) hp p)
  rw [HM] at HL
  have hle : l.length ≤ 1000 := by omega
  clear HM hm
  go_enter Try.func6, Try.ntmps6
  go_wp2_with fail
  refine HL.out.mono ?_
  rintro e w0 ⟨rfl, hs⟩
  have hb := hs.box
  have hp0 := hs.prfs
  have hk0 := hs.kept
  obtain ⟨b0, b1⟩ := hb
  simp only [Nat.zero_add] at b1
  go_wp2_with fail
  refine (add_any hp0 hle p).mono ?_
  rintro e w1 h1
  have k1 := h1.kept
  by_cases h0 : addE p = 0
  · obtain ⟨a1, c1, rfl, o1⟩ := h1.ok h0
    have hlev : levelL l ≤ levelL (delL l p.1 ++ [p]) := level_mono (has_del l p)
    have hne := hid (show ∀ k (hk : k < (delL l p.1 ++ [p]).length), k < (delL l p.1).length → ((delL l p.1 ++ [p])[k].1 == p.1) = false from fun k hk hd => by
      rw [List.getElem_append_left hd]; exact del_ne hd)
    have hlast := hid (show ∀ k (hk : k < (delL l p.1 ++ [p]).length), k = (delL l p.1).length → (delL l p.1 ++ [p])[k] = p from fun k hk e => by subst e; simp)
    have HML := hid (show (delL l p.1 ++ [p]).length = (delL l p.1).length + 1 by simp)
    have hdl : (delL l p.1).length ≤ l.length := List.length_filter_le _ _
    clear h1
    generalize (delL l p.1).length = D at *
    generalize hMM : delL l p.1 ++ [p] = M at *
    have HMM := hid hMM
    have hMb : M.length ≤ 1001 := by have := HML.out; omega
    clear hMM
    have q0 := kc k1 b0
    have q1 := kc k1 b1
    go_wp2_with fail
    refine (radd_any (hp0.kept k1) hle p).mono ?_
    rintro e w2 h2
    obtain ⟨a2, c2, rfl, o2⟩ := h2.ok h0
    have k2 := o2.kept
    rw [HMM.out] at o2 ⊢
    clear h2 h0
    have hs1 := (o1.later k2).seq
    go_wp2_with (first
      | (go_at_call 15; refine (same_any hs1 o2.seq rfl).mono ?_; rintro e w3 ⟨rfl, n3, rfl⟩)
      | (go_at_call 10; refine (live_any _).mono ?_; rintro e w4 ⟨rfl, k4⟩))
    have hw4 := (((hk0.step k1 (by simp)).step k2 (by simp)).drewN n3).step k4 (by simp)
    have k24 := (Kept.drewN (Kept.refl [] w2) n3).step k4 (by simp)
    have hs4 := hs1.kept k24
    have u0 := kc (k2.step k24 (by simp)) q0
    have u1 := kc (k2.step k24 (by simp)) q1
    have hp4 := hp0.kept (((k1.step k2 (by simp)).drewN n3).step k4 (by simp))
    clear q0 q1 b0 b1
    go_loopw [9, 43] (fun c i wr => ∃ k n : Nat, k ≤ M.length ∧ i = .int .i64 k ∧ c = .int .i64 (if k < M.length then 0 else 1) ∧ wr = w4.drewN n) (fun _ i _ => M.length - (intOf i).toNat)
    case atStart => exact ⟨0, 0, Nat.zero_le _, rfl, by have := HML.out; rw [if_pos (by omega)], rfl⟩
    case round =>
      have hML := HML.out
      obtain ⟨k, n, hk, rfl, rfl, rfl⟩ := hrel
      by_cases hlt : k < M.length
      · obtain ⟨g, off, rfl, hb, hc0, hc1⟩ := hs4.at hlt
        have hb1 : (0 : Int) ≤ k := by omega
        have hb2 : (k : Int) < M.length := by omega
        by_cases hd : k < D
        · have t := hne.out k hlt hd
          have hif : (if k < M.length then (0 : Int) else 1) = if k + 1 < M.length then 0 else 1 := by rw [if_pos hlt, if_pos (by omega)]
          rw [hif]
          have hif2 := hid hif
          clear hif hML
          go_wp2_with (go_quiet (fail))
          go_roundw
          case rel =>
            have hML := HML.out
            exact ⟨k + 1, _, by omega, by go_num, rfl, rfl⟩
          case measure => have := HML.out; simp [intOf]; omega
        · have t : (M[k].1 == p.1) = true := by rw [hlast.out k hlt (by omega)]; exact beq_self_eq_true _
          have hif : (if k < M.length then (0 : Int) else 1) = 0 := by rw [if_pos hlt]
          have hif2 := hid (show (if k + 1 < M.length then (0 : Int) else 1) = 1 by rw [if_neg (by omega)])
          rw [hif]
          clear hif hML
          go_wp2_with (go_quiet (fail))
          go_roundw
          case rel =>
            have hML := HML.out
            exact ⟨k + 1, _, by omega, by go_num, by rw [hif2.out], rfl⟩
          case measure => have := HML.out; simp [intOf]; omega
      · have hif : (if k < M.length then (0 : Int) else 1) = 1 := by rw [if_neg hlt]
        rw [hif]
        clear hif
        obtain ⟨g, rfl, cf⟩ := own_at ((o1.later k2).later (k24.drewN n)) (by omega)
        obtain ⟨v0, v1⟩ := cf D (by omega)
        rw [hlast.out D (by omega) rfl] at v0 v1
        have hall := hid (show ∀ wq, Kept [] (w4.drewN n) wq → wq.cell? ⟨g, D * 2, none⟩ = some (.int .i64 p.1) ∧ wq.cell? ⟨g, D * 2 + 1, none⟩ = some (.int .i64 p.2) ∧ wq.cell? ⟨w.heap.size, 0, none⟩ = some (.int .i64 p.1) ∧ wq.cell? ⟨w.heap.size, 1, none⟩ = some (.int .i64 p.2) from
          fun wq k => ⟨kc k v0, kc k v1, kc (Kept.step (Kept.drewN (Kept.refl [] w4) n) k (by simp)) u0, kc (Kept.step (Kept.drewN (Kept.refl [] w4) n) k (by simp)) u1⟩)
        have hd1 : IntKind.i64.wrap ((M.length : Int) - 1) = (D : Int) := by rw [IntWalk.i64_in _ (by omega)]; omega
        have hd2 : (0 : Int) ≤ D := by omega
        have hd3 : (D : Int) < M.length := by omega
        have q0 : (p.1 == p.1) = true := beq_self_eq_true _
        have q1 : (p.2 == p.2) = true := beq_self_eq_true _
        have j0 : Kept [] (w4.drewN n) (w4.drewN n).drew := (Kept.refl [] _).drew
        have hsd := (hs4.kept (Kept.drewN (Kept.refl [] w4) n)).kept j0
        have hpd := (hp4.kept (Kept.drewN (Kept.refl [] w4) n)).kept j0
        have hwd := hw4.drewN n
        clear cf hML v0 v1 hdl u0 u1
        generalize w4.drewN n = w5 at *
        go_wp2_with fail
        go_region_held3 (fun w' => w'.cell? ⟨g, D * 2, none⟩ = some (.int .i64 p.1) ∧ w'.cell? ⟨g, D * 2 + 1, none⟩ = some (.int .i64 p.2) ∧ w'.cell? ⟨w.heap.size, 0, none⟩ = some (.int .i64 p.1) ∧ w'.cell? ⟨w.heap.size, 1, none⟩ = some (.int .i64 p.2))
          (first | (exact hall.out _ j2) | (exact hall.out _ j1) | (exact hall.out _ j0))
          (first
            | (go_at_call 11; refine (level_any hp6).mono ?_; rintro e w7 ⟨rfl, k7⟩; have j2 := j1.step k7 (by simp))
            | (go_at_call 11; refine (level_any hsd).mono ?_; rintro e w6 ⟨rfl, k6⟩; have j1 := j0.step k6 (by simp); have hp6 := hpd.kept k6))
        go_wp2_with fail
        go_ret
        exact ⟨rfl, (hwd.step j2 (by simp)).bel⟩
  · obtain ⟨rfl, _⟩ := h1.err h0
    have q0 := kc k1 b0
    have q1 := kc k1 b1
    go_wp2_with fail
    refine (radd_any (hp0.kept k1) hle p).mono ?_
    rintro e w2 h2
    obtain ⟨rfl, k2⟩ := h2.err h0
    have hE : (addE p == addE p) = true := beq_self_eq_true _
    have hE0 : (addE p == 0) = false := by simpa using h0
    generalize addE p = E at *
    go_wp2_with (first
      | (go_at_call 15; refine (same_any (prfs_nil _) (prfs_nil _) rfl).mono ?_; rintro e w3 ⟨rfl, n3, rfl⟩)
      | (go_at_call 10; refine (live_any _).mono ?_; rintro e w4 ⟨rfl, k4⟩))
    go_ret
    exact ⟨rfl, ((((hk0.step k1 (by simp)).step k2 (by simp)).drewN n3).step k4 (by simp)).bel⟩
end Go.Proofs.Ytmipnhdfhgekkaa
