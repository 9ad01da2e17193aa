/- The reference's Score; Band of both. -/
import Derived.Test.YtbcbffmbpoffpaaNum3
import Derived.Test.YtbcbffmbpoffpaaNum4
namespace Go.Proofs.Ytbcbffmbpoffpaa
open Go.RowKit Go.Lib

set_option maxHeartbeats 400000 in
theorem rweight_any {w : World} {a : Option Addr} {cap : Nat} {l : List Sig} (h : SigsAt w a l) (n : Str) :
    Calls Try.prog 54 #[.slice a l.length cap, .string ⟨n.toArray⟩] w fun e w' => e = .returned (.int .i64 (weightZ l n)) ∧ w = w' := by
  have hf := h.few
  unfold maxLen at hf
  go_enter Try.func54, Try.ntmps54
  go_wp2_with fail
  go_loop [5] (fun i => ∃ k : Nat, k ≤ l.length ∧ i = .int .i64 k ∧ NoneTo (nameB n) l k) (fun i => l.length - (intOf i).toNat)
  case atStart => exact ⟨0, Nat.zero_le _, rfl, NoneTo.zero _ _⟩
  case round =>
    obtain ⟨k, hk, rfl, hn⟩ := hrel
    by_cases hlt : k < l.length
    · obtain ⟨b, off, rfl, hb, hc0, hc1⟩ := SigsAt.get h hlt
      have hb1 : (0 : Int) ≤ k := by omega
      have hb2 : (k : Int) < l.length := by omega
      cases hp : nameB n l[k]
      · have he : (l[k].1 == n) = false := hp
        have HP := hid hp
        clear hp
        go_wp2_with fail
        go_round
        case rel => exact ⟨k + 1, by omega, by go_num, hn.next hlt HP.out⟩
        case measure => simp [intOf]; omega
      · have he : (l[k].1 == n) = true := hp
        have HP := hid hp
        clear hp
        go_wp2_with fail
        go_ret
        exact ⟨ret_int (weight_yes hlt HP.out hn).symm, rfl⟩
    · have hx := hid (weight_no (hn.all (by omega)))
      go_wp2_with fail
      go_ret
      exact ⟨ret_int hx.out.symm, rfl⟩

theorem sumZ_bd {ws : List Sig} (hw : FitS ws) : ∀ {l : List Sig}, FitS l → -85070591730234615865843651857942052864 * (l.length : Int) ≤ sumZ ws l ∧ sumZ ws l ≤ 85070591730234615865843651857942052864 * (l.length : Int)
  | [], _ => by simp [sumZ]
  | x :: r, h => by
    have ih := sumZ_bd hw (l := r) (fun y hy => h y (by simp [hy]))
    have hx := h x (by simp)
    have hv := weight_fit hw x.1
    have := prod_bd x.2 (weightZ ws x.1) hx.1 hx.2 hv.1 hv.2
    simp only [sumZ, List.length_cons]
    omega

set_option maxHeartbeats 2000000 in
set_option maxRecDepth 100000 in
theorem total_any {w : World} {a b : Option Addr} {cap cap2 : Nat} {l ws : List Sig} (h : SigsAt w a l) (h2 : SigsAt w b ws) (hl : l.length ≤ 100) (hfl : FitS l) (hfw : FitS ws) :
    Calls Try.prog 35 #[.slice a l.length cap, .slice b ws.length cap2] w fun e w' => e = .returned (.int .i64 (clampZ (sumZ ws l))) ∧ Kept [] w w' := by
  go_enter Try.func35, Try.ntmps35
  go_wp2_with fail
  go_loopw [6] (fun i wr => ∃ (k : Nat), k ≤ l.length ∧ i = .int .i64 k ∧ Kept [] w wr ∧ wr.heap[w.heap.size]? = some (.cells (cellsW (sumZ ws (l.take k))) 84 (0, 0))) (fun i _ => l.length - (intOf i).toNat)
  case atStart => exact ⟨0, Nat.zero_le _, rfl, (Kept.refl [] w).alloc _, heap_alloc_new w _⟩
  case round =>
    obtain ⟨k, hk, rfl, hkw, hbx⟩ := hrel
    by_cases hlt : k < l.length
    · have hs1 := h.keptN hkw
      obtain ⟨b1, off, rfl, hb, hc0, hc1⟩ := SigsAt.get hs1 hlt
      have hb1 : (0 : Int) ≤ k := by omega
      have hb2 : (k : Int) < l.length := by omega
      have HWE := hid (fun wq (q : Kept [] wr wq) => rweight_any (cap := cap2) ((h2.keptN hkw).keptN q) l[k].1)
      have Hsn := hid (sumZ_snoc ws l k hlt)
      have hfit := hid (hfl _ (List.getElem_mem hlt))
      have hfit2 := hid (weight_fit hfw l[k].1)
      generalize weightZ ws l[k].1 = wz at *
      obtain ⟨S, HS⟩ : ∃ S, Hid (S = sumZ ws (l.take k)) := ⟨_, hid rfl⟩
      rw [← HS.out] at hbx
      have c0 : wr.cell? ⟨w.heap.size, 0, none⟩ = some (.int .u64 (wd S 0)) := by rw [cell_at hbx]; rfl
      have c1 : wr.cell? ⟨w.heap.size, 1, none⟩ = some (.int .u64 (wd S 1)) := by rw [cell_at hbx]; rfl
      have c2 : wr.cell? ⟨w.heap.size, 2, none⟩ = some (.int .u64 (wd S 2)) := by rw [cell_at hbx]; rfl
      have HBX := hid hbx
      clear hbx hs1
      go_wp2_with fail
      have HK := hid hkw
      generalize l[k] = sg at *
      clear h h2 hfl hfw hkw hb
      go_region_with (first
        | (go_at_call 54; refine (HWE.out _ ((Kept.refl [] _).drew)).mono ?_; rintro e w' ⟨rfl, rfl⟩)
        | (go_at_call 53; refine (prod_any sg.2 wz hfit.out.1 hfit.out.2 hfit2.out.1 hfit2.out.2 _).mono ?_; rintro e w5 ⟨rfl, k5⟩; have HB5 := hid (k5.at (i := w.heap.size) HBX.out (by simp)); have c05 : w5.cell? ⟨w.heap.size, 0, none⟩ = some (.int .u64 (wd S 0)) := (by rw [cell_at HB5.out]; rfl); have c15 : w5.cell? ⟨w.heap.size, 1, none⟩ = some (.int .u64 (wd S 1)) := (by rw [cell_at HB5.out]; rfl); have c25 : w5.cell? ⟨w.heap.size, 2, none⟩ = some (.int .u64 (wd S 2)) := (by rw [cell_at HB5.out]; rfl); clear c0 c1 c2 hc0 hc1)
        | (go_at_call 52; refine (wsum_any S _ _).mono ?_; rintro e w6 ⟨rfl, k6⟩; have HB6 := hid (k6.at (i := w.heap.size) HB5.out (by simp)); have c06 : w6.cell? ⟨w.heap.size, 0, none⟩ = some (.int .u64 (wd S 0)) := (by rw [cell_at HB6.out]; rfl); have c16 : w6.cell? ⟨w.heap.size, 1, none⟩ = some (.int .u64 (wd S 1)) := (by rw [cell_at HB6.out]; rfl); have c26 : w6.cell? ⟨w.heap.size, 2, none⟩ = some (.int .u64 (wd S 2)) := (by rw [cell_at HB6.out]; rfl); have g0 := free_at HB6.out 0; have g1 := free_at HB6.out 1; have g2 := free_at HB6.out 2; clear c05 c15 c25))
      all_goals
        go_wp2_with fail
        go_roundw
        case rel =>
          refine ⟨k + 1, by omega, by go_num, (((((HK.out.drew).step k5 (by simp)).step k6 (by simp)).setCell (.inr (by simp)) _).setCell (.inr (by simp)) _).setCell (.inr (by simp)) _, ?_⟩
          rw [Hsn.out, ← HS.out]
          exact set3 HB6.out _ _ _
        case measure => simp [intOf]; omega
    · have e1 : l.take k = l := List.take_of_length_le (by omega)
      rw [e1] at hbx
      obtain ⟨z1, z2⟩ := sumZ_bd hfw hfl
      have hN : -8507059173023461586584365185794205286400 ≤ sumZ ws l ∧ sumZ ws l ≤ 8507059173023461586584365185794205286400 := by omega
      clear z1 z2
      obtain ⟨N, HN⟩ : ∃ N, Hid (N = sumZ ws l) := ⟨_, hid rfl⟩
      rw [← HN.out] at hbx hN
      have c0 : wr.cell? ⟨w.heap.size, 0, none⟩ = some (.int .u64 (wd N 0)) := by rw [cell_at hbx]; rfl
      have c1 : wr.cell? ⟨w.heap.size, 1, none⟩ = some (.int .u64 (wd N 1)) := by rw [cell_at hbx]; rfl
      have c2 : wr.cell? ⟨w.heap.size, 2, none⟩ = some (.int .u64 (wd N 2)) := by rw [cell_at hbx]; rfl
      have b0 := wd_bd N 0
      have b1 := wd_bd N 1
      have b2 := wd_bd N 2
      have e0 : wd N 0 = N % 18446744073709551616 := rfl
      have e1 : wd N 1 = N / 18446744073709551616 % 18446744073709551616 := rfl
      have e2 : wd N 2 = N / 18446744073709551616 / 18446744073709551616 % 18446744073709551616 := rfl
      have HE := hid (And.intro e0 (And.intro e1 e2))
      clear e0 e1 e2 hbx
      generalize wd N 0 = x0 at *
      generalize wd N 1 = x1 at *
      generalize wd N 2 = x2 at *
      by_cases hneg : N < 0
      · have E := hid (show clampZ N = 0 by unfold clampZ; rw [if_pos hneg])
        have hs : (x2 / 9223372036854775808 == 1) = true := by rw [beq_iff_eq]; have := HE.out; omega
        clear hneg hN b0 b1 b2
        go_wp2_with fail
        go_ret
        exact ⟨ret_int (by rw [← HN.out]; exact E.out.symm), hkw⟩
      · have hs : (x2 / 9223372036854775808 == 1) = false := by rw [beq_eq_false_iff_ne]; have := HE.out; omega
        by_cases h2 : 0 < x2
        · have E := hid (show clampZ N = 100 by unfold clampZ; rw [if_neg hneg, if_pos (by have := HE.out; omega)])
          clear hneg hN
          go_wp2_with fail
          go_ret
          exact ⟨ret_int (by rw [← HN.out]; exact E.out.symm), hkw⟩
        · by_cases h1 : 0 < x1
          · have E := hid (show clampZ N = 100 by unfold clampZ; rw [if_neg hneg, if_pos (by have := HE.out; omega)])
            clear hneg hN
            go_wp2_with fail
            go_ret
            exact ⟨ret_int (by rw [← HN.out]; exact E.out.symm), hkw⟩
          · by_cases h0 : 100 < x0
            · have E := hid (show clampZ N = 100 by unfold clampZ; rw [if_neg hneg, if_pos (by have := HE.out; omega)])
              clear hneg hN
              go_wp2_with fail
              go_ret
              exact ⟨ret_int (by rw [← HN.out]; exact E.out.symm), hkw⟩
            · have E := hid (show clampZ N = x0 by unfold clampZ; rw [if_neg hneg, if_neg (by have := HE.out; omega)]; have := HE.out; omega)
              have h0' : x0 ≤ 100 := by omega
              clear hneg hN
              go_wp2_with fail
              go_ret
              exact ⟨ret_int (by rw [← HN.out]; exact E.out.symm), hkw⟩

set_option maxHeartbeats 400000 in
theorem rscore_any {w : World} {a b : Option Addr} {cap cap2 : Nat} {l ws : List Sig} (h : SigsAt w a l) (h2 : SigsAt w b ws) (hl : l.length ≤ 100) (hfl : FitS l) (hfw : FitS ws) :
    Calls Try.prog 12 #[.slice a l.length cap, .slice b ws.length cap2] w fun e w' => e = .returned (.int .i64 (clampZ (sumZ ws l))) ∧ Kept [] w w' := by
  have HT := hid (total_any (cap := cap) (cap2 := cap2) h h2 hl hfl hfw)
  go_enter Try.func12, Try.ntmps12
  go_wp2_with (go_at_call 35; refine HT.out.mono ?_; rintro e w' ⟨rfl, k⟩)
  go_ret
  exact ⟨rfl, k⟩
end Go.Proofs.Ytbcbffmbpoffpaa
