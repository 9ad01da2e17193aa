/- ClockWindows, walked: it returns true. -/
import Derived.Test.YtjjmcmchcmfgnaaDoorAlive
import Derived.Test.YtjjmcmchcmfgnaaDoorOpen
namespace Go.Proofs.YtjjmcmchcmfgnaaDoor
open Go.RowKit

/-- Some window of a list holds an instant. -/
def anyIn (l : List Win) (t : Int) : Bool := l.any (fun x => inW x t)
theorem anyIn_take (l : List Win) (t : Int) (k : Nat) (h : k < l.length) : anyIn (l.take (k + 1)) t = (anyIn (l.take k) t || inW l[k] t) := by
  unfold anyIn
  rw [List.take_succ_eq_append_getElem h, List.any_append]
  simp
theorem anyIn_mem (l : List Win) (t : Int) : anyIn l t = true ↔ Mem l (lim t) := by
  unfold anyIn Mem inW
  rw [List.any_eq_true]
  simp
theorem anyIn_least {l U : List Win} (h : Least l U) (t : Int) : anyIn U t = anyIn l t := by
  rw [Bool.eq_iff_iff, anyIn_mem, anyIn_mem]
  exact h.2.1 _
theorem sep_get {U : List Win} (h : Sep U) {k : Nat} (hk : k < U.length) : U[k].1 < U[k].2 := h.1 _ (List.getElem_mem _)
theorem sep_prev {U : List Win} (h : Sep U) {k : Nat} (hk : k + 1 < U.length) : (U[k]'(by omega)).2 < U[k + 1].1 := List.pairwise_iff_getElem.1 h.2 k (k + 1) (by omega) hk (by omega)
theorem com_in (x y : Win) (t : Int) : ((comW x y).2 && inW (comW x y).1 t) = (inW x t && inW y t) := by
  unfold comW inW
  rw [Bool.eq_iff_iff]
  split
  · simp; omega
  · simp; omega
theorem chk_in (x : Win) (t : Int) (h : x.1 < x.2) : (chk x t 0 == 0) = inW x t := by
  unfold chk inW
  rw [Bool.eq_iff_iff, if_neg (by omega)]
  have := lim_bd t
  split
  · simp; omega
  · split
    · simp; omega
    · simp; omega
theorem chk_grow (x : Win) (t k : Int) (h : chk x t k = 0) : chk x t (k + 1) = 0 := by
  unfold chk at *
  split at h
  · cases h
  · split at h
    · cases h
    · split at h
      · cases h
      · rw [if_neg (by omega), if_neg (by omega), if_neg (by omega)]
set_option maxHeartbeats 8000000 in
set_option maxRecDepth 100000 in
theorem windows_walk {w : World} {a : Option Addr} {cap : Nat} {l : List Win} (h : WinsAt w a l) (t : Int) (_ : (Lit.int .i64 t).wf = true) (sk : Int) (hsk : (Lit.int .i64 sk).wf = true) (ht : Tab w) :
    Calls Tryd.prog 7 #[.slice a l.length cap, .int .i64 t, .int .i64 sk] w fun e w' => e = .returned (.bool true) ∧ Below w.heap.size w w' := by
  have HA := hid (fun (W : World) (k : Kept [] w W) => alive_any (ht.kept k))
  clear ht
  have hw : Kept [] w w := Kept.refl _ _
  rcases (show 12 < l.length ∨ (l.length ≤ 12 ∧ t < 0) ∨ (l.length ≤ 12 ∧ 0 ≤ t ∧ 1099511627776 < t) ∨ (l.length ≤ 12 ∧ 0 ≤ t ∧ t ≤ 1099511627776) by omega) with g1 | ⟨g1, g2⟩ | ⟨g1, g2, g3⟩ | ⟨g1, g2, g3⟩
  · have hli : (12 : Int) < l.length := by omega
    go_enter Tryd.func7, Tryd.ntmps7
    go_wp2_with (go_at_call 15; refine (HA.out _ hw).mono ?_; rintro _ w8 ⟨rfl, h8⟩)
    go_ret
    exact ⟨rfl, h8.toBelow (by simp)⟩
  · have hli : (l.length : Int) ≤ 12 := by omega
    go_enter Tryd.func7, Tryd.ntmps7
    go_wp2_with (go_at_call 15; refine (HA.out _ hw).mono ?_; rintro _ w8 ⟨rfl, h8⟩)
    go_ret
    exact ⟨rfl, h8.toBelow (by simp)⟩
  · have hli : (l.length : Int) ≤ 12 := by omega
    go_enter Tryd.func7, Tryd.ntmps7
    go_wp2_with (go_at_call 15; refine (HA.out _ hw).mono ?_; rintro _ w8 ⟨rfl, h8⟩)
    go_ret
    exact ⟨rfl, h8.toBelow (by simp)⟩
  · have hli : (l.length : Int) ≤ 12 := by omega
    have HU := hid (fun (W : World) (k : Kept [] w W) => union_any (cap := cap) (SeqAt.kept h CEnc.lasts k (by simp)) (by omega))
    go_enter Tryd.func7, Tryd.ntmps7
    go_wp2_with fail
    go_loopw [7, 8] (fun bv iv wr => ∃ k : Nat, k ≤ l.length ∧ iv = .int .i64 (k : Int) ∧ bv = .bool (anyIn (l.take k) t) ∧ Kept [] w wr) (fun _ iv _ => l.length - (intOf iv).toNat)
    case atStart => exact ⟨0, Nat.zero_le _, rfl, rfl, hw⟩
    case round =>
      clear hw
      obtain ⟨k, hk, rfl, rfl, hw⟩ := hrel
      by_cases hlt : k < l.length
      · obtain ⟨b, off, ea, hb, hc0, hc1⟩ := WinsAt.get (SeqAt.kept h CEnc.lasts hw (by simp)) hlt
        subst ea
        have hb1 : (0 : Int) ≤ k := by omega
        have hb2 : (k : Int) < l.length := by omega
        have HN := hid (anyIn_take l t k hlt)
        have HI := hid (fun W => in_any l[k] t W)
        unfold winV at HI
        generalize inW l[k] t = c at *
        cases hbo : anyIn (l.take k) t
        all_goals (
          rw [hbo] at HN
          clear hbo
          go_wp2_with (go_at_call 16; refine (HI.out _).mono ?_; rintro _ w3 ⟨rfl, h3⟩; replace hw := hw.step h3 (by simp); clear h3)
          go_roundw
          case rel => exact ⟨k + 1, hlt, by go_num, by rw [HN.out]; rfl, hw⟩
          case measure => simp [intOf]; omega)
      · obtain rfl : k = l.length := by omega
        rw [List.take_length]
        obtain ⟨B, hB⟩ : ∃ B, Hid (anyIn l t = B) := ⟨_, hid rfl⟩
        rw [hB.out]
        go_wp2_with (go_at_call 23; refine (HU.out _ hw).mono ?_; rintro _ w5 ⟨a5, c5, U, rfl, o5, L5⟩; have L5 := hid L5; replace hw := hw.step o5.kept (by simp))
        have hk5 : Kept [] w5 w5 := Kept.refl _ _
        have hUs := o5.seq encWOk
        have hUl : U.length ≤ 12 := by have := L5.out.2.2; omega
        have hsep := hid L5.out.1
        have hin := hid ((anyIn_least L5.out t).trans hB.out)
        clear o5 HU hk hlt
        go_loopw [10, 11] (fun bv iv wr => ∃ k : Nat, k ≤ U.length ∧ iv = .int .i64 (k : Int) ∧ bv = .bool (anyIn (U.take k) t) ∧ Kept [] w5 wr) (fun _ iv _ => U.length - (intOf iv).toNat)
        case atStart => exact ⟨0, Nat.zero_le _, rfl, rfl, hk5⟩
        case round =>
          clear hk5
          obtain ⟨k, hk, rfl, rfl, hk5⟩ := hrel
          by_cases hlt : k < U.length
          · have hUs2 := SeqAt.kept hUs CEnc.lasts hk5 (by simp)
            obtain ⟨b, off, ea, hb, hc0, hc1⟩ := WinsAt.get hUs2 hlt
            subst ea
            have hb1 : (0 : Int) ≤ k := by omega
            have hb2 : (k : Int) < U.length := by omega
            have HN := hid (anyIn_take U t k hlt)
            have HI := hid (fun W => in_any U[k] t W)
            have hd1 : decide (U[k].2 ≤ U[k].1) = false := by have := sep_get hsep.out hlt; simp; omega
            unfold winV at HI
            generalize inW U[k] t = c at *
            rcases Nat.eq_zero_or_pos k with rfl | hpos
            · have hd2 : decide ((0 : Int) < 0) = false := rfl
              simp only [Nat.zero_mul, Nat.add_zero] at hc0 hc1
              cases hbo : anyIn (U.take 0) t
              all_goals (
                rw [hbo] at HN
                clear hbo
                go_wp2_with fail
                go_quiet (fail)
                have kq := hk5.drewN nq
                go_wp2_with (go_at_call 16; refine (HI.out _).mono ?_; rintro _ w3 ⟨rfl, h3⟩; replace kq := kq.step h3 (by simp); clear h3)
                go_roundw
                case rel => exact ⟨1, hlt, by go_num, by rw [HN.out]; rfl, kq⟩
                case measure => simp [intOf]; omega)
            · obtain ⟨j, rfl⟩ : ∃ j, k = j + 1 := ⟨k - 1, by omega⟩
              obtain ⟨b', off', ea, _, hp0, hp1⟩ := WinsAt.get hUs2 (show j < U.length by omega)
              injection ea with ea
              injection ea with ea1 ea2
              subst ea1
              subst ea2
              have ej : (((j + 1 : Nat) : Int)) = (j : Int) + 1 := by omega
              have hj0 : (0 : Int) ≤ j := by omega
              have hj1 : (j : Int) < U.length := by omega
              have hd2 : decide ((0 : Int) < (j : Int) + 1) = true := decide_eq_true (by omega)
              have hd3 : decide (U[j + 1].1 ≤ U[j].2) = false := by have := sep_prev hsep.out hlt; simp; omega
              rw [ej] at hb1 hb2 ⊢
              cases hbo : anyIn (U.take (j + 1)) t
              all_goals (
                rw [hbo] at HN
                clear hbo
                go_wp2_with fail
                go_quiet (fail)
                have kq := hk5.drewN nq
                go_wp2_with (go_at_call 16; refine (HI.out _).mono ?_; rintro _ w3 ⟨rfl, h3⟩; replace kq := kq.step h3 (by simp); clear h3)
                go_roundw
                case rel => exact ⟨j + 1 + 1, hlt, by go_num, by rw [HN.out]; rfl, kq⟩
                case measure => simp [intOf]; omega)
          · obtain rfl : k = U.length := by omega
            rw [List.take_length, hin.out]
            have hw2 := hw.step hk5 (by simp)
            clear hw hk5 hUs hsep hin hk hlt L5
            have hBB : (B != B) = false := by simp
            by_cases h2 : l.length < 2
            · have h2i : (l.length : Int) < 2 := by omega
              go_wp2_with (go_at_call 15; refine (HA.out _ hw2).mono ?_; rintro _ w8 ⟨rfl, h8⟩)
              go_ret
              exact ⟨rfl, (hw2.step h8 (by simp)).toBelow (by simp)⟩
            · have h2i : (2 : Int) ≤ l.length := by omega
              have hnN : 0 < l.length := by omega
              have hn0 : (0 : Int) < l.length := by omega
              have hn1 : (1 : Int) < l.length := by omega
              clear hB hBB
              obtain ⟨b, off, rfl, hb, hx0, hx1⟩ := WinsAt.get (SeqAt.kept h CEnc.lasts hw2 (by simp)) (i := 0) (by omega)
              obtain ⟨b', off', ea, _, hy0, hy1⟩ := WinsAt.get (SeqAt.kept h CEnc.lasts hw2 (by simp)) (i := 1) (by omega)
              injection ea with ea
              injection ea with ea1 ea2
              subst ea1
              subst ea2
              simp only [Nat.zero_mul, Nat.add_zero, Nat.one_mul] at hx0 hx1 hy0 hy1
              clear hb
              generalize l[0] = x at *
              generalize l[1] = y at *
              clear h L5
              generalize l.length = n at *
              have HC := hid (fun W => common_any x y W)
              have hci := hid (com_in x y t)
              generalize comW x y = R at *
              obtain ⟨⟨r1, r2⟩, rb⟩ := R
              unfold winV at HC
              have hcell := hid (fun (W : World) (q : Kept [] wr W) => (show W.cell? ⟨b, off, none⟩ = some (.int .i64 x.1) ∧ W.cell? ⟨b, off + 1, none⟩ = some (.int .i64 x.2) ∧ W.cell? ⟨b, off + 2, none⟩ = some (.int .i64 y.1) ∧ W.cell? ⟨b, off + 2 + 1, none⟩ = some (.int .i64 y.2) from
                ⟨(q.cell (World.block_lt_of_cell? wr _ hx0) (by simp)).trans hx0, (q.cell (World.block_lt_of_cell? wr _ hx1) (by simp)).trans hx1, (q.cell (World.block_lt_of_cell? wr _ hy0) (by simp)).trans hy0, (q.cell (World.block_lt_of_cell? wr _ hy1) (by simp)).trans hy1⟩))
              go_wp2_with fail
              go_region_held3 (fun w' => w'.cell? ⟨b, off, none⟩ = some (.int .i64 x.1) ∧ w'.cell? ⟨b, off + 1, none⟩ = some (.int .i64 x.2) ∧ w'.cell? ⟨b, off + 2, none⟩ = some (.int .i64 y.1) ∧ w'.cell? ⟨b, off + 2 + 1, none⟩ = some (.int .i64 y.2))
                (first
                  | exact hcell.out _ ((((Kept.refl [] _).drew.alloc _).step h3 (by simp)))
                  | exact hcell.out _ (((((Kept.refl [] _).drew.alloc _).step h3 (by simp)).setCell (.inr (Nat.le_refl _)) _).setCell (.inr (Nat.le_refl _)) _)
                  | exact hcell.out _ (((((Kept.refl [] _).drew.step h3 (by simp)).alloc _).setCell (.inr h3.size) _).setCell (.inr h3.size) _)
                  | exact hcell.out _ ((((Kept.refl [] _).drew.step h3 (by simp)).alloc _).setCell (.inr (by have := h3.size; simp at this ⊢; omega)) _)
                  | exact hcell.out _ (((Kept.refl [] _).drew.step h3 (by simp)).alloc _)
                  | exact hcell.out _ ((Kept.refl [] _).drew.step h3 (by simp))
                  | exact hcell.out _ ((Kept.refl [] _).drew.alloc _)
                  | exact hcell.out _ ((Kept.refl [] _).drew)
                  | go_keep)
                (first
                  | (go_at_call 20; refine (HC.out _).mono ?_; rintro _ w3 ⟨rfl, h3⟩; try (have hz := h3.at (show (World.alloc wr.drew (.cells #[.int .i64 0, .int .i64 0] 27 (0, 0))).heap[wr.heap.size]? = _ from heap_alloc_new wr.drew _) (by simp); have zz0 := cell_at hz 0; have zz1 := cell_at hz 1; have zf0 := free_at hz 0; have zf1 := free_at hz 1; simp at zz0 zz1)))
              · have kW : Kept [] wr (w3.alloc (.cells #[.int .i64 r1, .int .i64 r2] 27 (0, 0))) := ((Kept.refl [] wr).drew.step h3 (by simp)).alloc _
                have hb2 := heap_alloc_new w3 (.cells #[.int .i64 r1, .int .i64 r2] 27 (0, 0))
                generalize hwv : w3.alloc (.cells #[.int .i64 r1, .int .i64 r2] 27 (0, 0)) = wv at *
                generalize hbc : w3.heap.size = bc at *
                clear hwv hbc h3 HC
                replace hw2 := hw2.step kW (by simp)
                have hc6 := hid (fun (W : World) (q : Kept [] wv W) => (show (W.cell? ⟨bc, 0, none⟩ = some (.int .i64 r1) ∧ W.cell? ⟨bc, 1, none⟩ = some (.int .i64 r2)) ∧ W.cell? ⟨b, off, none⟩ = some (.int .i64 x.1) ∧ W.cell? ⟨b, off + 1, none⟩ = some (.int .i64 x.2) ∧ W.cell? ⟨b, off + 2, none⟩ = some (.int .i64 y.1) ∧ W.cell? ⟨b, off + 2 + 1, none⟩ = some (.int .i64 y.2) from
                  ⟨⟨by have := cell_at (q.at hb2 (by simp)) 0; simpa using this, by have := cell_at (q.at hb2 (by simp)) 1; simpa using this⟩, hcell.out W (kW.step q (by simp))⟩))
                obtain ⟨⟨q0, q1⟩, q2, q3, q4, q5⟩ := hc6.out wv (Kept.refl _ _)
                have HIc := hid (fun W => in_any (r1, r2) t W)
                have HIx := hid (fun W => in_any x t W)
                have HIy := hid (fun W => in_any y t W)
                unfold winV at HIc HIx HIy
                have hchk := hid (chk_in x t)
                generalize inW (r1, r2) t = cc at *
                generalize inW x t = cx at *
                generalize inW y t = cy at *
                clear hcell hx0 hx1 hy0 hy1 hb2 kW
                cases rb
                all_goals cases cx
                · simp only at HIc
                  clear hci
                  go_wp2_with fail
                  refine wp_region_held_drew (S := fun w' => (w'.cell? ⟨bc, 0, none⟩ = some (.int .i64 r1) ∧ w'.cell? ⟨bc, 1, none⟩ = some (.int .i64 r2)) ∧ w'.cell? ⟨b, off, none⟩ = some (.int .i64 x.1) ∧ w'.cell? ⟨b, off + 1, none⟩ = some (.int .i64 x.2) ∧ w'.cell? ⟨b, off + 2, none⟩ = some (.int .i64 y.1) ∧ w'.cell? ⟨b, off + 2 + 1, none⟩ = some (.int .i64 y.2)) (by kernel_rfl) (hc6.out _ (Kept.refl [] wv).drew) (fun hHeld => ?_)
                  refine wpAnyH_take (i := 0) (v := ?_) (by simp only [List.getElem?_toArray, List.getElem?_cons_zero]; rfl) (by kernel_rfl) (by kernel_rfl) (by kernel_rfl) (by exact fun _ _ _ h => h) (Or.inl ⟨by rfl, ?_⟩) (by assumption) ?_
                  rotate_left
                  · (intro wq hSw; (try dsimp only at hSw); (first | (go_simp; done) | (go_simp; with_reducible rfl)))
                  try simp only [Act.put, List.setIfInBounds_toArray, List.set_cons_zero, List.set_cons_succ]
                  refine wpAnyH_take (i := 1) (v := ?_) (by simp only [List.getElem?_toArray, List.getElem?_cons_succ, List.getElem?_cons_zero]; rfl) (by kernel_rfl) (by kernel_rfl) (by kernel_rfl) (by exact fun _ _ _ h => h) (Or.inl ⟨by rfl, ?_⟩) (by assumption) ?_
                  rotate_left
                  · (intro wq hSw; (try dsimp only at hSw); (first | (go_simp; done) | (go_simp; with_reducible rfl)))
                  try simp only [Act.put, List.setIfInBounds_toArray, List.set_cons_zero, List.set_cons_succ]
                  refine wpAnyH_take (i := 2) (v := undef) (by simp only [List.getElem?_toArray, List.getElem?_cons_succ, List.getElem?_cons_zero]; rfl) (by kernel_rfl) (by kernel_rfl) (by kernel_rfl) (by exact fun _ _ _ h => h) (Or.inr ⟨by rfl, rfl⟩) (by assumption) ?_
                  try simp only [Act.put, List.setIfInBounds_toArray, List.set_cons_zero, List.set_cons_succ]
                  refine wpAnyH_take (i := 3) (v := undef) (by simp only [List.getElem?_toArray, List.getElem?_cons_succ, List.getElem?_cons_zero]; rfl) (by kernel_rfl) (by kernel_rfl) (by kernel_rfl) (by exact fun _ _ _ h => h) (Or.inr ⟨by rfl, rfl⟩) (by assumption) ?_
                  try simp only [Act.put, List.setIfInBounds_toArray, List.set_cons_zero, List.set_cons_succ]
                  refine wpAnyH_take (i := 4) (v := undef) (by simp only [List.getElem?_toArray, List.getElem?_cons_succ, List.getElem?_cons_zero]; rfl) (by kernel_rfl) (by kernel_rfl) (by kernel_rfl) (by exact fun _ _ _ h => h) (Or.inr ⟨by rfl, rfl⟩) (by assumption) ?_
                  try simp only [Act.put, List.setIfInBounds_toArray, List.set_cons_zero, List.set_cons_succ]
                  refine wpAnyH_take (i := 6) (v := ?_) (by simp only [List.getElem?_toArray, List.getElem?_cons_succ, List.getElem?_cons_zero]; rfl) (by kernel_rfl) (by kernel_rfl) (by kernel_rfl) (by exact fun _ _ _ h => h) (Or.inl ⟨by rfl, ?_⟩) (by assumption) ?_
                  rotate_left
                  · (intro wq hSw; (try dsimp only at hSw); (first | (go_simp; done) | (go_simp; with_reducible rfl)))
                  try simp only [Act.put, List.setIfInBounds_toArray, List.set_cons_zero, List.set_cons_succ]
                  refine wpAnyH_take (i := 7) (v := ?_) (by simp only [List.getElem?_toArray, List.getElem?_cons_succ, List.getElem?_cons_zero]; rfl) (by kernel_rfl) (by kernel_rfl) (by kernel_rfl) (by exact fun _ _ _ h => h) (Or.inl ⟨by rfl, ?_⟩) (by assumption) ?_
                  rotate_left
                  · (intro wq hSw; (try dsimp only at hSw); (first | (go_simp; done) | (go_simp; with_reducible rfl)))
                  try simp only [Act.put, List.setIfInBounds_toArray, List.set_cons_zero, List.set_cons_succ]
                  refine wpAnyH_take (i := 8) (v := ?_) (by simp only [List.getElem?_toArray, List.getElem?_cons_succ, List.getElem?_cons_zero]; rfl) (by kernel_rfl) (by kernel_rfl) (by kernel_rfl) (by exact fun _ _ _ h => h) (Or.inl ⟨by rfl, ?_⟩) (by assumption) ?_
                  rotate_left
                  · (intro wq hSw; (try dsimp only at hSw); (first | (go_simp; done) | (go_simp; with_reducible rfl)))
                  try simp only [Act.put, List.setIfInBounds_toArray, List.set_cons_zero, List.set_cons_succ]
                  refine wpAnyH_take (i := 9) (v := ?_) (by simp only [List.getElem?_toArray, List.getElem?_cons_succ, List.getElem?_cons_zero]; rfl) (by kernel_rfl) (by kernel_rfl) (by kernel_rfl) (by exact fun _ _ _ h => h) (Or.inl ⟨by rfl, ?_⟩) (by assumption) ?_
                  rotate_left
                  · (intro wq hSw; (try dsimp only at hSw); (first | (go_simp; done) | (go_simp; with_reducible rfl)))
                  try simp only [Act.put, List.setIfInBounds_toArray, List.set_cons_zero, List.set_cons_succ]
                  refine wpAnyH_take (i := 5) (v := ?_) (by simp only [List.getElem?_toArray, List.getElem?_cons_succ, List.getElem?_cons_zero]; rfl) (by kernel_rfl) (by kernel_rfl) (by kernel_rfl) (by exact fun _ _ _ h => h) (Or.inl ⟨by rfl, ?_⟩) (by assumption) ?_
                  rotate_left
                  · (intro wq hSw; (try dsimp only at hSw); (first | (go_simp; done) | (go_simp; with_reducible rfl)))
                  try simp only [Act.put, List.setIfInBounds_toArray, List.set_cons_zero, List.set_cons_succ]
                  refine wpAnyH_ready (rs := [10]) (by kernel_rfl) (by simp) ?_
                  refine AllReadyH.cons (by simp only [List.getElem?_toArray, List.getElem?_cons_succ, List.getElem?_cons_zero]; rfl) (fun K hK => ?_) AllReadyH.nil
                  go_simp
                  go_at_call 16
                  refine (HIx.out _).mono ?_
                  rintro _ w5 ⟨rfl, h5⟩
                  go_wp2_with fail
                  refine hK.out _ _ (hc6.out _ (((Kept.refl [] _).drew.step h5 (by simp)))) (fun hHeld => ?_)
                  clear hK K
                  try simp only [Act.put, List.setIfInBounds_toArray, List.set_cons_zero, List.set_cons_succ]
                  refine wpAnyH_take (i := 11) (v := ?_) (by simp only [List.getElem?_toArray, List.getElem?_cons_succ, List.getElem?_cons_zero]; rfl) (by kernel_rfl) (by kernel_rfl) (by kernel_rfl) (by exact fun _ _ _ h => h) (Or.inl ⟨by rfl, ?_⟩) (by assumption) ?_
                  rotate_left
                  · (intro wq hSw; (try dsimp only at hSw); (first | (go_simp; done) | (go_simp; with_reducible rfl)))
                  try simp only [Act.put, List.setIfInBounds_toArray, List.set_cons_zero, List.set_cons_succ]
                  refine wpAnyH_take (i := 12) (v := undef) (by simp only [List.getElem?_toArray, List.getElem?_cons_succ, List.getElem?_cons_zero]; rfl) (by kernel_rfl) (by kernel_rfl) (by kernel_rfl) (by exact fun _ _ _ h => h) (Or.inr ⟨by rfl, rfl⟩) (by assumption) ?_
                  try simp only [Act.put, List.setIfInBounds_toArray, List.set_cons_zero, List.set_cons_succ]
                  refine wpAnyH_take (i := 13) (v := undef) (by simp only [List.getElem?_toArray, List.getElem?_cons_succ, List.getElem?_cons_zero]; rfl) (by kernel_rfl) (by kernel_rfl) (by kernel_rfl) (by exact fun _ _ _ h => h) (Or.inr ⟨by rfl, rfl⟩) (by assumption) ?_
                  try simp only [Act.put, List.setIfInBounds_toArray, List.set_cons_zero, List.set_cons_succ]
                  refine wpAnyH_take (i := 14) (v := undef) (by simp only [List.getElem?_toArray, List.getElem?_cons_succ, List.getElem?_cons_zero]; rfl) (by kernel_rfl) (by kernel_rfl) (by kernel_rfl) (by exact fun _ _ _ h => h) (Or.inr ⟨by rfl, rfl⟩) (by assumption) ?_
                  try simp only [Act.put, List.setIfInBounds_toArray, List.set_cons_zero, List.set_cons_succ]
                  refine wpAnyH_take (i := 15) (v := undef) (by simp only [List.getElem?_toArray, List.getElem?_cons_succ, List.getElem?_cons_zero]; rfl) (by kernel_rfl) (by kernel_rfl) (by kernel_rfl) (by exact fun _ _ _ h => h) (Or.inr ⟨by rfl, rfl⟩) (by assumption) ?_
                  try simp only [Act.put, List.setIfInBounds_toArray, List.set_cons_zero, List.set_cons_succ]
                  refine wpAnyH_take (i := 16) (v := undef) (by simp only [List.getElem?_toArray, List.getElem?_cons_succ, List.getElem?_cons_zero]; rfl) (by kernel_rfl) (by kernel_rfl) (by kernel_rfl) (by exact fun _ _ _ h => h) (Or.inr ⟨by rfl, rfl⟩) (by assumption) ?_
                  try simp only [Act.put, List.setIfInBounds_toArray, List.set_cons_zero, List.set_cons_succ]
                  refine wpAnyH_take (i := 17) (v := ?_) (by simp only [List.getElem?_toArray, List.getElem?_cons_succ, List.getElem?_cons_zero]; rfl) (by kernel_rfl) (by kernel_rfl) (by kernel_rfl) (by exact fun _ _ _ h => h) (Or.inl ⟨by rfl, ?_⟩) (by assumption) ?_
                  rotate_left
                  · (intro wq hSw; (try dsimp only at hSw); (first | (go_simp; done) | (go_simp; with_reducible rfl)))
                  try simp only [Act.put, List.setIfInBounds_toArray, List.set_cons_zero, List.set_cons_succ]
                  refine wpAnyH_take (i := 18) (v := ?_) (by simp only [List.getElem?_toArray, List.getElem?_cons_succ, List.getElem?_cons_zero]; rfl) (by kernel_rfl) (by kernel_rfl) (by kernel_rfl) (by exact fun _ _ _ h => h) (Or.inl ⟨by rfl, ?_⟩) (by assumption) ?_
                  rotate_left
                  · (intro wq hSw; (try dsimp only at hSw); (first | (go_simp; done) | (go_simp; with_reducible rfl)))
                  try simp only [Act.put, List.setIfInBounds_toArray, List.set_cons_zero, List.set_cons_succ]
                  refine wpAnyH_done (by kernel_rfl) ?_ _
                  have kz : Kept [] wv w5 := ((Kept.refl [] wv).drew.step h5 (by simp))
                  obtain ⟨_, x0, x1, _, _⟩ := hc6.out _ kz
                  have hx4 := hid (fun (W : World) (q : Kept [] w5 W) => (hc6.out W (kz.step q (by simp))).2)
                  replace hw2 := hw2.step kz (by simp)
                  clear HIc HIy q0 q1 q2 q3 q4 q5 hc6 kz h5
                  have HK0 := hid (fun W => check_any x t 0 W)
                  unfold winV at HK0
                  have hgrow := hid (chk_grow x t)
                  have bsk := Go.bounds_i64 hsk
                  obtain ⟨m, hm, hm1, hm2⟩ : ∃ m : Int, min sk 1000 = m ∧ m ≤ 1000 ∧ -9223372036854775808 ≤ m := ⟨_, rfl, by omega, by omega⟩
                  have HKm := hid (fun W => check_any x t m W)
                  have HKn := hid (fun W => check_any x t (m + 1) W)
                  unfold winV at HKm HKn
                  generalize hc0 : chk x t 0 = c0 at *
                  have hg := hgrow.out m
                  generalize chk x t m = cm at *
                  generalize chk x t (m + 1) = cn at *
                  clear hgrow hc0
                  by_cases hxx : x.1 < x.2
                  · have hd : decide (x.1 < x.2) = true := by simpa using hxx
                    have hck := hchk.out hxx
                    go_wp2_with fail
                    go_region_held3 (fun w' => w'.cell? ⟨b, off, none⟩ = some (.int .i64 x.1) ∧ w'.cell? ⟨b, off + 1, none⟩ = some (.int .i64 x.2) ∧ w'.cell? ⟨b, off + 2, none⟩ = some (.int .i64 y.1) ∧ w'.cell? ⟨b, off + 2 + 1, none⟩ = some (.int .i64 y.2))
                        (first
                          | exact hx4.out _ (((Kept.refl [] _).drew.step h7 (by simp)).step h8 (by simp))
                          | exact hx4.out _ ((Kept.refl [] _).drew.step h7 (by simp))
                          | exact hx4.out _ ((Kept.refl [] _).drew)
                          | go_keep)
                        (first
                          | (go_at_call 18; refine (HK0.out _).mono ?_; rintro _ w7 ⟨rfl, h7⟩)
                          | (go_at_call 16; refine (HIx.out _).mono ?_; rintro _ w8 ⟨rfl, h8⟩))
                    have kz2 : Kept [] w5 w8 := ((Kept.refl [] _).drew.step h7 (by simp)).step h8 (by simp)
                    have hw3 := hw2.step kz2 (by simp)
                    obtain ⟨xa, xb, _, _⟩ := hx4.out _ kz2
                    have hx5 := hid (fun (W : World) (q : Kept [] w8 W) => hx4.out W (kz2.step q (by simp)))
                    have zc0 : True := trivial
                    by_cases hcm : cm = 0
                    · have hcn := hg hcm
                      subst hcm
                      subst hcn
                      go_wp2_with (first
                        | (go_at_call 18; have _t := zc1; clear _t zc1; refine (HKn.out _).mono ?_; rintro _ w9 ⟨rfl, h9⟩; replace hw3 := hw3.step h9 (by simp); clear h9)
                        | (go_at_call 18; have _t := zc0; clear _t zc0; refine (HKm.out _).mono ?_; rintro _ w9 ⟨rfl, h9⟩; obtain ⟨y0, y1, _, _⟩ := hx5.out _ h9; replace hw3 := hw3.step h9 (by simp); clear h9; have zc1 : True := trivial)
                        | (go_at_call 15; refine (HA.out _ hw3).mono ?_; rintro _ w8 ⟨rfl, h8⟩; replace hw3 := hw3.step h8 (by simp); clear h8))
                      go_ret
                      exact ⟨rfl, hw3.toBelow (by simp)⟩
                    · have hcb : (cm != 0) = true := by simpa using hcm
                      go_wp2_with (first
                        | (go_at_call 18; have _t := zc0; clear _t zc0; refine (HKm.out _).mono ?_; rintro _ w9 ⟨rfl, h9⟩; replace hw3 := hw3.step h9 (by simp); clear h9)
                        | (go_at_call 15; refine (HA.out _ hw3).mono ?_; rintro _ w8 ⟨rfl, h8⟩; replace hw3 := hw3.step h8 (by simp); clear h8))
                      go_ret
                      exact ⟨rfl, hw3.toBelow (by simp)⟩
                  · have hd : decide (x.1 < x.2) = false := by simpa using hxx
                    go_wp2_with fail
                    go_quiet (fail)
                    have kz2 : Kept [] w5 (w5.drewN nq) := (Kept.refl [] _).drewN nq
                    generalize World.drewN w5 nq = wq at *
                    have hw3 := hw2.step kz2 (by simp)
                    obtain ⟨xa, xb, _, _⟩ := hx4.out _ kz2
                    have hx5 := hid (fun (W : World) (q : Kept [] wq W) => hx4.out W (kz2.step q (by simp)))
                    have zc0 : True := trivial
                    by_cases hcm : cm = 0
                    · have hcn := hg hcm
                      subst hcm
                      subst hcn
                      go_wp2_with (first
                        | (go_at_call 18; have _t := zc1; clear _t zc1; refine (HKn.out _).mono ?_; rintro _ w9 ⟨rfl, h9⟩; replace hw3 := hw3.step h9 (by simp); clear h9)
                        | (go_at_call 18; have _t := zc0; clear _t zc0; refine (HKm.out _).mono ?_; rintro _ w9 ⟨rfl, h9⟩; obtain ⟨y0, y1, _, _⟩ := hx5.out _ h9; replace hw3 := hw3.step h9 (by simp); clear h9; have zc1 : True := trivial)
                        | (go_at_call 15; refine (HA.out _ hw3).mono ?_; rintro _ w8 ⟨rfl, h8⟩; replace hw3 := hw3.step h8 (by simp); clear h8))
                      go_ret
                      exact ⟨rfl, hw3.toBelow (by simp)⟩
                    · have hcb : (cm != 0) = true := by simpa using hcm
                      go_wp2_with (first
                        | (go_at_call 18; have _t := zc0; clear _t zc0; refine (HKm.out _).mono ?_; rintro _ w9 ⟨rfl, h9⟩; replace hw3 := hw3.step h9 (by simp); clear h9)
                        | (go_at_call 15; refine (HA.out _ hw3).mono ?_; rintro _ w8 ⟨rfl, h8⟩; replace hw3 := hw3.step h8 (by simp); clear h8))
                      go_ret
                      exact ⟨rfl, hw3.toBelow (by simp)⟩
                · have e : cy = false := by have := hci.out; simpa using this
                  subst e
                  simp only at HIc
                  clear hci
                  go_wp2_with fail
                  refine wp_region_held_drew (S := fun w' => (w'.cell? ⟨bc, 0, none⟩ = some (.int .i64 r1) ∧ w'.cell? ⟨bc, 1, none⟩ = some (.int .i64 r2)) ∧ w'.cell? ⟨b, off, none⟩ = some (.int .i64 x.1) ∧ w'.cell? ⟨b, off + 1, none⟩ = some (.int .i64 x.2) ∧ w'.cell? ⟨b, off + 2, none⟩ = some (.int .i64 y.1) ∧ w'.cell? ⟨b, off + 2 + 1, none⟩ = some (.int .i64 y.2)) (by kernel_rfl) (hc6.out _ (Kept.refl [] wv).drew) (fun hHeld => ?_)
                  refine wpAnyH_take (i := 0) (v := ?_) (by simp only [List.getElem?_toArray, List.getElem?_cons_zero]; rfl) (by kernel_rfl) (by kernel_rfl) (by kernel_rfl) (by exact fun _ _ _ h => h) (Or.inl ⟨by rfl, ?_⟩) (by assumption) ?_
                  rotate_left
                  · (intro wq hSw; (try dsimp only at hSw); (first | (go_simp; done) | (go_simp; with_reducible rfl)))
                  try simp only [Act.put, List.setIfInBounds_toArray, List.set_cons_zero, List.set_cons_succ]
                  refine wpAnyH_take (i := 1) (v := ?_) (by simp only [List.getElem?_toArray, List.getElem?_cons_succ, List.getElem?_cons_zero]; rfl) (by kernel_rfl) (by kernel_rfl) (by kernel_rfl) (by exact fun _ _ _ h => h) (Or.inl ⟨by rfl, ?_⟩) (by assumption) ?_
                  rotate_left
                  · (intro wq hSw; (try dsimp only at hSw); (first | (go_simp; done) | (go_simp; with_reducible rfl)))
                  try simp only [Act.put, List.setIfInBounds_toArray, List.set_cons_zero, List.set_cons_succ]
                  refine wpAnyH_take (i := 2) (v := undef) (by simp only [List.getElem?_toArray, List.getElem?_cons_succ, List.getElem?_cons_zero]; rfl) (by kernel_rfl) (by kernel_rfl) (by kernel_rfl) (by exact fun _ _ _ h => h) (Or.inr ⟨by rfl, rfl⟩) (by assumption) ?_
                  try simp only [Act.put, List.setIfInBounds_toArray, List.set_cons_zero, List.set_cons_succ]
                  refine wpAnyH_take (i := 3) (v := undef) (by simp only [List.getElem?_toArray, List.getElem?_cons_succ, List.getElem?_cons_zero]; rfl) (by kernel_rfl) (by kernel_rfl) (by kernel_rfl) (by exact fun _ _ _ h => h) (Or.inr ⟨by rfl, rfl⟩) (by assumption) ?_
                  try simp only [Act.put, List.setIfInBounds_toArray, List.set_cons_zero, List.set_cons_succ]
                  refine wpAnyH_take (i := 4) (v := undef) (by simp only [List.getElem?_toArray, List.getElem?_cons_succ, List.getElem?_cons_zero]; rfl) (by kernel_rfl) (by kernel_rfl) (by kernel_rfl) (by exact fun _ _ _ h => h) (Or.inr ⟨by rfl, rfl⟩) (by assumption) ?_
                  try simp only [Act.put, List.setIfInBounds_toArray, List.set_cons_zero, List.set_cons_succ]
                  refine wpAnyH_take (i := 6) (v := ?_) (by simp only [List.getElem?_toArray, List.getElem?_cons_succ, List.getElem?_cons_zero]; rfl) (by kernel_rfl) (by kernel_rfl) (by kernel_rfl) (by exact fun _ _ _ h => h) (Or.inl ⟨by rfl, ?_⟩) (by assumption) ?_
                  rotate_left
                  · (intro wq hSw; (try dsimp only at hSw); (first | (go_simp; done) | (go_simp; with_reducible rfl)))
                  try simp only [Act.put, List.setIfInBounds_toArray, List.set_cons_zero, List.set_cons_succ]
                  refine wpAnyH_take (i := 7) (v := ?_) (by simp only [List.getElem?_toArray, List.getElem?_cons_succ, List.getElem?_cons_zero]; rfl) (by kernel_rfl) (by kernel_rfl) (by kernel_rfl) (by exact fun _ _ _ h => h) (Or.inl ⟨by rfl, ?_⟩) (by assumption) ?_
                  rotate_left
                  · (intro wq hSw; (try dsimp only at hSw); (first | (go_simp; done) | (go_simp; with_reducible rfl)))
                  try simp only [Act.put, List.setIfInBounds_toArray, List.set_cons_zero, List.set_cons_succ]
                  refine wpAnyH_take (i := 8) (v := ?_) (by simp only [List.getElem?_toArray, List.getElem?_cons_succ, List.getElem?_cons_zero]; rfl) (by kernel_rfl) (by kernel_rfl) (by kernel_rfl) (by exact fun _ _ _ h => h) (Or.inl ⟨by rfl, ?_⟩) (by assumption) ?_
                  rotate_left
                  · (intro wq hSw; (try dsimp only at hSw); (first | (go_simp; done) | (go_simp; with_reducible rfl)))
                  try simp only [Act.put, List.setIfInBounds_toArray, List.set_cons_zero, List.set_cons_succ]
                  refine wpAnyH_take (i := 9) (v := ?_) (by simp only [List.getElem?_toArray, List.getElem?_cons_succ, List.getElem?_cons_zero]; rfl) (by kernel_rfl) (by kernel_rfl) (by kernel_rfl) (by exact fun _ _ _ h => h) (Or.inl ⟨by rfl, ?_⟩) (by assumption) ?_
                  rotate_left
                  · (intro wq hSw; (try dsimp only at hSw); (first | (go_simp; done) | (go_simp; with_reducible rfl)))
                  try simp only [Act.put, List.setIfInBounds_toArray, List.set_cons_zero, List.set_cons_succ]
                  refine wpAnyH_take (i := 5) (v := ?_) (by simp only [List.getElem?_toArray, List.getElem?_cons_succ, List.getElem?_cons_zero]; rfl) (by kernel_rfl) (by kernel_rfl) (by kernel_rfl) (by exact fun _ _ _ h => h) (Or.inl ⟨by rfl, ?_⟩) (by assumption) ?_
                  rotate_left
                  · (intro wq hSw; (try dsimp only at hSw); (first | (go_simp; done) | (go_simp; with_reducible rfl)))
                  try simp only [Act.put, List.setIfInBounds_toArray, List.set_cons_zero, List.set_cons_succ]
                  refine wpAnyH_ready (rs := [10]) (by kernel_rfl) (by simp) ?_
                  refine AllReadyH.cons (by simp only [List.getElem?_toArray, List.getElem?_cons_succ, List.getElem?_cons_zero]; rfl) (fun K hK => ?_) AllReadyH.nil
                  go_simp
                  go_at_call 16
                  refine (HIx.out _).mono ?_
                  rintro _ w5 ⟨rfl, h5⟩
                  go_wp2_with fail
                  refine hK.out _ _ (hc6.out _ (((Kept.refl [] _).drew.step h5 (by simp)))) (fun hHeld => ?_)
                  clear hK K
                  try simp only [Act.put, List.setIfInBounds_toArray, List.set_cons_zero, List.set_cons_succ]
                  refine wpAnyH_take (i := 11) (v := ?_) (by simp only [List.getElem?_toArray, List.getElem?_cons_succ, List.getElem?_cons_zero]; rfl) (by kernel_rfl) (by kernel_rfl) (by kernel_rfl) (by exact fun _ _ _ h => h) (Or.inl ⟨by rfl, ?_⟩) (by assumption) ?_
                  rotate_left
                  · (intro wq hSw; (try dsimp only at hSw); (first | (go_simp; done) | (go_simp; with_reducible rfl)))
                  try simp only [Act.put, List.setIfInBounds_toArray, List.set_cons_zero, List.set_cons_succ]
                  refine wpAnyH_take (i := 12) (v := ?_) (by simp only [List.getElem?_toArray, List.getElem?_cons_succ, List.getElem?_cons_zero]; rfl) (by kernel_rfl) (by kernel_rfl) (by kernel_rfl) (by exact fun _ _ _ h => h) (Or.inl ⟨by rfl, ?_⟩) (by assumption) ?_
                  rotate_left
                  · (intro wq hSw; (try dsimp only at hSw); (first | (go_simp; done) | (go_simp; with_reducible rfl)))
                  try simp only [Act.put, List.setIfInBounds_toArray, List.set_cons_zero, List.set_cons_succ]
                  refine wpAnyH_take (i := 13) (v := ?_) (by simp only [List.getElem?_toArray, List.getElem?_cons_succ, List.getElem?_cons_zero]; rfl) (by kernel_rfl) (by kernel_rfl) (by kernel_rfl) (by exact fun _ _ _ h => h) (Or.inl ⟨by rfl, ?_⟩) (by assumption) ?_
                  rotate_left
                  · (intro wq hSw; (try dsimp only at hSw); (first | (go_simp; done) | (go_simp; with_reducible rfl)))
                  try simp only [Act.put, List.setIfInBounds_toArray, List.set_cons_zero, List.set_cons_succ]
                  refine wpAnyH_take (i := 14) (v := ?_) (by simp only [List.getElem?_toArray, List.getElem?_cons_succ, List.getElem?_cons_zero]; rfl) (by kernel_rfl) (by kernel_rfl) (by kernel_rfl) (by exact fun _ _ _ h => h) (Or.inl ⟨by rfl, ?_⟩) (by assumption) ?_
                  rotate_left
                  · (intro wq hSw; (try dsimp only at hSw); (first | (go_simp; done) | (go_simp; with_reducible rfl)))
                  try simp only [Act.put, List.setIfInBounds_toArray, List.set_cons_zero, List.set_cons_succ]
                  refine wpAnyH_take (i := 15) (v := ?_) (by simp only [List.getElem?_toArray, List.getElem?_cons_succ, List.getElem?_cons_zero]; rfl) (by kernel_rfl) (by kernel_rfl) (by kernel_rfl) (by exact fun _ _ _ h => h) (Or.inl ⟨by rfl, ?_⟩) (by assumption) ?_
                  rotate_left
                  · (intro wq hSw; (try dsimp only at hSw); (first | (go_simp; done) | (go_simp; with_reducible rfl)))
                  try simp only [Act.put, List.setIfInBounds_toArray, List.set_cons_zero, List.set_cons_succ]
                  refine wpAnyH_ready (rs := [16]) (by kernel_rfl) (by simp) ?_
                  refine AllReadyH.cons (by simp only [List.getElem?_toArray, List.getElem?_cons_succ, List.getElem?_cons_zero]; rfl) (fun K hK => ?_) AllReadyH.nil
                  go_simp
                  go_at_call 16
                  refine (HIy.out _).mono ?_
                  rintro _ w6 ⟨rfl, h6⟩
                  go_wp2_with fail
                  refine hK.out _ _ (hc6.out _ ((((Kept.refl [] _).drew.step h5 (by simp)).step h6 (by simp)))) (fun hHeld => ?_)
                  clear hK K
                  try simp only [Act.put, List.setIfInBounds_toArray, List.set_cons_zero, List.set_cons_succ]
                  refine wpAnyH_take (i := 17) (v := ?_) (by simp only [List.getElem?_toArray, List.getElem?_cons_succ, List.getElem?_cons_zero]; rfl) (by kernel_rfl) (by kernel_rfl) (by kernel_rfl) (by exact fun _ _ _ h => h) (Or.inl ⟨by rfl, ?_⟩) (by assumption) ?_
                  rotate_left
                  · (intro wq hSw; (try dsimp only at hSw); (first | (go_simp; done) | (go_simp; with_reducible rfl)))
                  try simp only [Act.put, List.setIfInBounds_toArray, List.set_cons_zero, List.set_cons_succ]
                  refine wpAnyH_take (i := 18) (v := ?_) (by simp only [List.getElem?_toArray, List.getElem?_cons_succ, List.getElem?_cons_zero]; rfl) (by kernel_rfl) (by kernel_rfl) (by kernel_rfl) (by exact fun _ _ _ h => h) (Or.inl ⟨by rfl, ?_⟩) (by assumption) ?_
                  rotate_left
                  · (intro wq hSw; (try dsimp only at hSw); (first | (go_simp; done) | (go_simp; with_reducible rfl)))
                  try simp only [Act.put, List.setIfInBounds_toArray, List.set_cons_zero, List.set_cons_succ]
                  refine wpAnyH_done (by kernel_rfl) ?_ _
                  have kz : Kept [] wv w6 := (((Kept.refl [] wv).drew.step h5 (by simp)).step h6 (by simp))
                  obtain ⟨_, x0, x1, _, _⟩ := hc6.out _ kz
                  have hx4 := hid (fun (W : World) (q : Kept [] w6 W) => (hc6.out W (kz.step q (by simp))).2)
                  replace hw2 := hw2.step kz (by simp)
                  clear HIc HIy q0 q1 q2 q3 q4 q5 hc6 kz h5 h6
                  have HK0 := hid (fun W => check_any x t 0 W)
                  unfold winV at HK0
                  have hgrow := hid (chk_grow x t)
                  have bsk := Go.bounds_i64 hsk
                  obtain ⟨m, hm, hm1, hm2⟩ : ∃ m : Int, min sk 1000 = m ∧ m ≤ 1000 ∧ -9223372036854775808 ≤ m := ⟨_, rfl, by omega, by omega⟩
                  have HKm := hid (fun W => check_any x t m W)
                  have HKn := hid (fun W => check_any x t (m + 1) W)
                  unfold winV at HKm HKn
                  generalize hc0 : chk x t 0 = c0 at *
                  have hg := hgrow.out m
                  generalize chk x t m = cm at *
                  generalize chk x t (m + 1) = cn at *
                  clear hgrow hc0
                  by_cases hxx : x.1 < x.2
                  · have hd : decide (x.1 < x.2) = true := by simpa using hxx
                    have hck := hchk.out hxx
                    go_wp2_with fail
                    go_region_held3 (fun w' => w'.cell? ⟨b, off, none⟩ = some (.int .i64 x.1) ∧ w'.cell? ⟨b, off + 1, none⟩ = some (.int .i64 x.2) ∧ w'.cell? ⟨b, off + 2, none⟩ = some (.int .i64 y.1) ∧ w'.cell? ⟨b, off + 2 + 1, none⟩ = some (.int .i64 y.2))
                        (first
                          | exact hx4.out _ (((Kept.refl [] _).drew.step h7 (by simp)).step h8 (by simp))
                          | exact hx4.out _ ((Kept.refl [] _).drew.step h7 (by simp))
                          | exact hx4.out _ ((Kept.refl [] _).drew)
                          | go_keep)
                        (first
                          | (go_at_call 18; refine (HK0.out _).mono ?_; rintro _ w7 ⟨rfl, h7⟩)
                          | (go_at_call 16; refine (HIx.out _).mono ?_; rintro _ w8 ⟨rfl, h8⟩))
                    have kz2 : Kept [] w6 w8 := ((Kept.refl [] _).drew.step h7 (by simp)).step h8 (by simp)
                    have hw3 := hw2.step kz2 (by simp)
                    obtain ⟨xa, xb, _, _⟩ := hx4.out _ kz2
                    have hx5 := hid (fun (W : World) (q : Kept [] w8 W) => hx4.out W (kz2.step q (by simp)))
                    have zc0 : True := trivial
                    by_cases hcm : cm = 0
                    · have hcn := hg hcm
                      subst hcm
                      subst hcn
                      go_wp2_with (first
                        | (go_at_call 18; have _t := zc1; clear _t zc1; refine (HKn.out _).mono ?_; rintro _ w9 ⟨rfl, h9⟩; replace hw3 := hw3.step h9 (by simp); clear h9)
                        | (go_at_call 18; have _t := zc0; clear _t zc0; refine (HKm.out _).mono ?_; rintro _ w9 ⟨rfl, h9⟩; obtain ⟨y0, y1, _, _⟩ := hx5.out _ h9; replace hw3 := hw3.step h9 (by simp); clear h9; have zc1 : True := trivial)
                        | (go_at_call 15; refine (HA.out _ hw3).mono ?_; rintro _ w8 ⟨rfl, h8⟩; replace hw3 := hw3.step h8 (by simp); clear h8))
                      go_ret
                      exact ⟨rfl, hw3.toBelow (by simp)⟩
                    · have hcb : (cm != 0) = true := by simpa using hcm
                      go_wp2_with (first
                        | (go_at_call 18; have _t := zc0; clear _t zc0; refine (HKm.out _).mono ?_; rintro _ w9 ⟨rfl, h9⟩; replace hw3 := hw3.step h9 (by simp); clear h9)
                        | (go_at_call 15; refine (HA.out _ hw3).mono ?_; rintro _ w8 ⟨rfl, h8⟩; replace hw3 := hw3.step h8 (by simp); clear h8))
                      go_ret
                      exact ⟨rfl, hw3.toBelow (by simp)⟩
                  · have hd : decide (x.1 < x.2) = false := by simpa using hxx
                    go_wp2_with fail
                    go_quiet (fail)
                    have kz2 : Kept [] w6 (w6.drewN nq) := (Kept.refl [] _).drewN nq
                    generalize World.drewN w6 nq = wq at *
                    have hw3 := hw2.step kz2 (by simp)
                    obtain ⟨xa, xb, _, _⟩ := hx4.out _ kz2
                    have hx5 := hid (fun (W : World) (q : Kept [] wq W) => hx4.out W (kz2.step q (by simp)))
                    have zc0 : True := trivial
                    by_cases hcm : cm = 0
                    · have hcn := hg hcm
                      subst hcm
                      subst hcn
                      go_wp2_with (first
                        | (go_at_call 18; have _t := zc1; clear _t zc1; refine (HKn.out _).mono ?_; rintro _ w9 ⟨rfl, h9⟩; replace hw3 := hw3.step h9 (by simp); clear h9)
                        | (go_at_call 18; have _t := zc0; clear _t zc0; refine (HKm.out _).mono ?_; rintro _ w9 ⟨rfl, h9⟩; obtain ⟨y0, y1, _, _⟩ := hx5.out _ h9; replace hw3 := hw3.step h9 (by simp); clear h9; have zc1 : True := trivial)
                        | (go_at_call 15; refine (HA.out _ hw3).mono ?_; rintro _ w8 ⟨rfl, h8⟩; replace hw3 := hw3.step h8 (by simp); clear h8))
                      go_ret
                      exact ⟨rfl, hw3.toBelow (by simp)⟩
                    · have hcb : (cm != 0) = true := by simpa using hcm
                      go_wp2_with (first
                        | (go_at_call 18; have _t := zc0; clear _t zc0; refine (HKm.out _).mono ?_; rintro _ w9 ⟨rfl, h9⟩; replace hw3 := hw3.step h9 (by simp); clear h9)
                        | (go_at_call 15; refine (HA.out _ hw3).mono ?_; rintro _ w8 ⟨rfl, h8⟩; replace hw3 := hw3.step h8 (by simp); clear h8))
                      go_ret
                      exact ⟨rfl, hw3.toBelow (by simp)⟩
                · have e : cc = false := by have := hci.out; simpa using this
                  subst e
                  simp only at HIc
                  clear hci
                  go_wp2_with fail
                  refine wp_region_held_drew (S := fun w' => (w'.cell? ⟨bc, 0, none⟩ = some (.int .i64 r1) ∧ w'.cell? ⟨bc, 1, none⟩ = some (.int .i64 r2)) ∧ w'.cell? ⟨b, off, none⟩ = some (.int .i64 x.1) ∧ w'.cell? ⟨b, off + 1, none⟩ = some (.int .i64 x.2) ∧ w'.cell? ⟨b, off + 2, none⟩ = some (.int .i64 y.1) ∧ w'.cell? ⟨b, off + 2 + 1, none⟩ = some (.int .i64 y.2)) (by kernel_rfl) (hc6.out _ (Kept.refl [] wv).drew) (fun hHeld => ?_)
                  refine wpAnyH_take (i := 0) (v := ?_) (by simp only [List.getElem?_toArray, List.getElem?_cons_zero]; rfl) (by kernel_rfl) (by kernel_rfl) (by kernel_rfl) (by exact fun _ _ _ h => h) (Or.inl ⟨by rfl, ?_⟩) (by assumption) ?_
                  rotate_left
                  · (intro wq hSw; (try dsimp only at hSw); (first | (go_simp; done) | (go_simp; with_reducible rfl)))
                  try simp only [Act.put, List.setIfInBounds_toArray, List.set_cons_zero, List.set_cons_succ]
                  refine wpAnyH_take (i := 1) (v := ?_) (by simp only [List.getElem?_toArray, List.getElem?_cons_succ, List.getElem?_cons_zero]; rfl) (by kernel_rfl) (by kernel_rfl) (by kernel_rfl) (by exact fun _ _ _ h => h) (Or.inl ⟨by rfl, ?_⟩) (by assumption) ?_
                  rotate_left
                  · (intro wq hSw; (try dsimp only at hSw); (first | (go_simp; done) | (go_simp; with_reducible rfl)))
                  try simp only [Act.put, List.setIfInBounds_toArray, List.set_cons_zero, List.set_cons_succ]
                  refine wpAnyH_take (i := 2) (v := ?_) (by simp only [List.getElem?_toArray, List.getElem?_cons_succ, List.getElem?_cons_zero]; rfl) (by kernel_rfl) (by kernel_rfl) (by kernel_rfl) (by exact fun _ _ _ h => h) (Or.inl ⟨by rfl, ?_⟩) (by assumption) ?_
                  rotate_left
                  · (intro wq hSw; (try dsimp only at hSw); (first | (go_simp; done) | (go_simp; with_reducible rfl)))
                  try simp only [Act.put, List.setIfInBounds_toArray, List.set_cons_zero, List.set_cons_succ]
                  refine wpAnyH_take (i := 3) (v := ?_) (by simp only [List.getElem?_toArray, List.getElem?_cons_succ, List.getElem?_cons_zero]; rfl) (by kernel_rfl) (by kernel_rfl) (by kernel_rfl) (by exact fun _ _ _ h => h) (Or.inl ⟨by rfl, ?_⟩) (by assumption) ?_
                  rotate_left
                  · (intro wq hSw; (try dsimp only at hSw); (first | (go_simp; done) | (go_simp; with_reducible rfl)))
                  try simp only [Act.put, List.setIfInBounds_toArray, List.set_cons_zero, List.set_cons_succ]
                  refine wpAnyH_take (i := 6) (v := ?_) (by simp only [List.getElem?_toArray, List.getElem?_cons_succ, List.getElem?_cons_zero]; rfl) (by kernel_rfl) (by kernel_rfl) (by kernel_rfl) (by exact fun _ _ _ h => h) (Or.inl ⟨by rfl, ?_⟩) (by assumption) ?_
                  rotate_left
                  · (intro wq hSw; (try dsimp only at hSw); (first | (go_simp; done) | (go_simp; with_reducible rfl)))
                  try simp only [Act.put, List.setIfInBounds_toArray, List.set_cons_zero, List.set_cons_succ]
                  refine wpAnyH_take (i := 7) (v := ?_) (by simp only [List.getElem?_toArray, List.getElem?_cons_succ, List.getElem?_cons_zero]; rfl) (by kernel_rfl) (by kernel_rfl) (by kernel_rfl) (by exact fun _ _ _ h => h) (Or.inl ⟨by rfl, ?_⟩) (by assumption) ?_
                  rotate_left
                  · (intro wq hSw; (try dsimp only at hSw); (first | (go_simp; done) | (go_simp; with_reducible rfl)))
                  try simp only [Act.put, List.setIfInBounds_toArray, List.set_cons_zero, List.set_cons_succ]
                  refine wpAnyH_take (i := 8) (v := ?_) (by simp only [List.getElem?_toArray, List.getElem?_cons_succ, List.getElem?_cons_zero]; rfl) (by kernel_rfl) (by kernel_rfl) (by kernel_rfl) (by exact fun _ _ _ h => h) (Or.inl ⟨by rfl, ?_⟩) (by assumption) ?_
                  rotate_left
                  · (intro wq hSw; (try dsimp only at hSw); (first | (go_simp; done) | (go_simp; with_reducible rfl)))
                  try simp only [Act.put, List.setIfInBounds_toArray, List.set_cons_zero, List.set_cons_succ]
                  refine wpAnyH_take (i := 9) (v := ?_) (by simp only [List.getElem?_toArray, List.getElem?_cons_succ, List.getElem?_cons_zero]; rfl) (by kernel_rfl) (by kernel_rfl) (by kernel_rfl) (by exact fun _ _ _ h => h) (Or.inl ⟨by rfl, ?_⟩) (by assumption) ?_
                  rotate_left
                  · (intro wq hSw; (try dsimp only at hSw); (first | (go_simp; done) | (go_simp; with_reducible rfl)))
                  try simp only [Act.put, List.setIfInBounds_toArray, List.set_cons_zero, List.set_cons_succ]
                  refine wpAnyH_ready (rs := [4]) (by kernel_rfl) (by simp) ?_
                  refine AllReadyH.cons (by simp only [List.getElem?_toArray, List.getElem?_cons_succ, List.getElem?_cons_zero]; rfl) (fun K hK => ?_) AllReadyH.nil
                  go_simp
                  go_at_call 16
                  refine (HIc.out _).mono ?_
                  rintro _ w4 ⟨rfl, h4⟩
                  go_wp2_with fail
                  refine hK.out _ _ (hc6.out _ (((Kept.refl [] _).drew.step h4 (by simp)))) (fun hHeld => ?_)
                  clear hK K
                  try simp only [Act.put, List.setIfInBounds_toArray, List.set_cons_zero, List.set_cons_succ]
                  refine wpAnyH_take (i := 5) (v := ?_) (by simp only [List.getElem?_toArray, List.getElem?_cons_succ, List.getElem?_cons_zero]; rfl) (by kernel_rfl) (by kernel_rfl) (by kernel_rfl) (by exact fun _ _ _ h => h) (Or.inl ⟨by rfl, ?_⟩) (by assumption) ?_
                  rotate_left
                  · (intro wq hSw; (try dsimp only at hSw); (first | (go_simp; done) | (go_simp; with_reducible rfl)))
                  try simp only [Act.put, List.setIfInBounds_toArray, List.set_cons_zero, List.set_cons_succ]
                  refine wpAnyH_ready (rs := [10]) (by kernel_rfl) (by simp) ?_
                  refine AllReadyH.cons (by simp only [List.getElem?_toArray, List.getElem?_cons_succ, List.getElem?_cons_zero]; rfl) (fun K hK => ?_) AllReadyH.nil
                  go_simp
                  go_at_call 16
                  refine (HIx.out _).mono ?_
                  rintro _ w5 ⟨rfl, h5⟩
                  go_wp2_with fail
                  refine hK.out _ _ (hc6.out _ ((((Kept.refl [] _).drew.step h4 (by simp)).step h5 (by simp)))) (fun hHeld => ?_)
                  clear hK K
                  try simp only [Act.put, List.setIfInBounds_toArray, List.set_cons_zero, List.set_cons_succ]
                  refine wpAnyH_take (i := 11) (v := ?_) (by simp only [List.getElem?_toArray, List.getElem?_cons_succ, List.getElem?_cons_zero]; rfl) (by kernel_rfl) (by kernel_rfl) (by kernel_rfl) (by exact fun _ _ _ h => h) (Or.inl ⟨by rfl, ?_⟩) (by assumption) ?_
                  rotate_left
                  · (intro wq hSw; (try dsimp only at hSw); (first | (go_simp; done) | (go_simp; with_reducible rfl)))
                  try simp only [Act.put, List.setIfInBounds_toArray, List.set_cons_zero, List.set_cons_succ]
                  refine wpAnyH_take (i := 12) (v := undef) (by simp only [List.getElem?_toArray, List.getElem?_cons_succ, List.getElem?_cons_zero]; rfl) (by kernel_rfl) (by kernel_rfl) (by kernel_rfl) (by exact fun _ _ _ h => h) (Or.inr ⟨by rfl, rfl⟩) (by assumption) ?_
                  try simp only [Act.put, List.setIfInBounds_toArray, List.set_cons_zero, List.set_cons_succ]
                  refine wpAnyH_take (i := 13) (v := undef) (by simp only [List.getElem?_toArray, List.getElem?_cons_succ, List.getElem?_cons_zero]; rfl) (by kernel_rfl) (by kernel_rfl) (by kernel_rfl) (by exact fun _ _ _ h => h) (Or.inr ⟨by rfl, rfl⟩) (by assumption) ?_
                  try simp only [Act.put, List.setIfInBounds_toArray, List.set_cons_zero, List.set_cons_succ]
                  refine wpAnyH_take (i := 14) (v := undef) (by simp only [List.getElem?_toArray, List.getElem?_cons_succ, List.getElem?_cons_zero]; rfl) (by kernel_rfl) (by kernel_rfl) (by kernel_rfl) (by exact fun _ _ _ h => h) (Or.inr ⟨by rfl, rfl⟩) (by assumption) ?_
                  try simp only [Act.put, List.setIfInBounds_toArray, List.set_cons_zero, List.set_cons_succ]
                  refine wpAnyH_take (i := 15) (v := undef) (by simp only [List.getElem?_toArray, List.getElem?_cons_succ, List.getElem?_cons_zero]; rfl) (by kernel_rfl) (by kernel_rfl) (by kernel_rfl) (by exact fun _ _ _ h => h) (Or.inr ⟨by rfl, rfl⟩) (by assumption) ?_
                  try simp only [Act.put, List.setIfInBounds_toArray, List.set_cons_zero, List.set_cons_succ]
                  refine wpAnyH_take (i := 16) (v := undef) (by simp only [List.getElem?_toArray, List.getElem?_cons_succ, List.getElem?_cons_zero]; rfl) (by kernel_rfl) (by kernel_rfl) (by kernel_rfl) (by exact fun _ _ _ h => h) (Or.inr ⟨by rfl, rfl⟩) (by assumption) ?_
                  try simp only [Act.put, List.setIfInBounds_toArray, List.set_cons_zero, List.set_cons_succ]
                  refine wpAnyH_take (i := 17) (v := ?_) (by simp only [List.getElem?_toArray, List.getElem?_cons_succ, List.getElem?_cons_zero]; rfl) (by kernel_rfl) (by kernel_rfl) (by kernel_rfl) (by exact fun _ _ _ h => h) (Or.inl ⟨by rfl, ?_⟩) (by assumption) ?_
                  rotate_left
                  · (intro wq hSw; (try dsimp only at hSw); (first | (go_simp; done) | (go_simp; with_reducible rfl)))
                  try simp only [Act.put, List.setIfInBounds_toArray, List.set_cons_zero, List.set_cons_succ]
                  refine wpAnyH_take (i := 18) (v := ?_) (by simp only [List.getElem?_toArray, List.getElem?_cons_succ, List.getElem?_cons_zero]; rfl) (by kernel_rfl) (by kernel_rfl) (by kernel_rfl) (by exact fun _ _ _ h => h) (Or.inl ⟨by rfl, ?_⟩) (by assumption) ?_
                  rotate_left
                  · (intro wq hSw; (try dsimp only at hSw); (first | (go_simp; done) | (go_simp; with_reducible rfl)))
                  try simp only [Act.put, List.setIfInBounds_toArray, List.set_cons_zero, List.set_cons_succ]
                  refine wpAnyH_done (by kernel_rfl) ?_ _
                  have kz : Kept [] wv w5 := (((Kept.refl [] wv).drew.step h4 (by simp)).step h5 (by simp))
                  obtain ⟨_, x0, x1, _, _⟩ := hc6.out _ kz
                  have hx4 := hid (fun (W : World) (q : Kept [] w5 W) => (hc6.out W (kz.step q (by simp))).2)
                  replace hw2 := hw2.step kz (by simp)
                  clear HIc HIy q0 q1 q2 q3 q4 q5 hc6 kz h4 h5
                  have HK0 := hid (fun W => check_any x t 0 W)
                  unfold winV at HK0
                  have hgrow := hid (chk_grow x t)
                  have bsk := Go.bounds_i64 hsk
                  obtain ⟨m, hm, hm1, hm2⟩ : ∃ m : Int, min sk 1000 = m ∧ m ≤ 1000 ∧ -9223372036854775808 ≤ m := ⟨_, rfl, by omega, by omega⟩
                  have HKm := hid (fun W => check_any x t m W)
                  have HKn := hid (fun W => check_any x t (m + 1) W)
                  unfold winV at HKm HKn
                  generalize hc0 : chk x t 0 = c0 at *
                  have hg := hgrow.out m
                  generalize chk x t m = cm at *
                  generalize chk x t (m + 1) = cn at *
                  clear hgrow hc0
                  by_cases hxx : x.1 < x.2
                  · have hd : decide (x.1 < x.2) = true := by simpa using hxx
                    have hck := hchk.out hxx
                    go_wp2_with fail
                    go_region_held3 (fun w' => w'.cell? ⟨b, off, none⟩ = some (.int .i64 x.1) ∧ w'.cell? ⟨b, off + 1, none⟩ = some (.int .i64 x.2) ∧ w'.cell? ⟨b, off + 2, none⟩ = some (.int .i64 y.1) ∧ w'.cell? ⟨b, off + 2 + 1, none⟩ = some (.int .i64 y.2))
                        (first
                          | exact hx4.out _ (((Kept.refl [] _).drew.step h7 (by simp)).step h8 (by simp))
                          | exact hx4.out _ ((Kept.refl [] _).drew.step h7 (by simp))
                          | exact hx4.out _ ((Kept.refl [] _).drew)
                          | go_keep)
                        (first
                          | (go_at_call 18; refine (HK0.out _).mono ?_; rintro _ w7 ⟨rfl, h7⟩)
                          | (go_at_call 16; refine (HIx.out _).mono ?_; rintro _ w8 ⟨rfl, h8⟩))
                    have kz2 : Kept [] w5 w8 := ((Kept.refl [] _).drew.step h7 (by simp)).step h8 (by simp)
                    have hw3 := hw2.step kz2 (by simp)
                    obtain ⟨xa, xb, _, _⟩ := hx4.out _ kz2
                    have hx5 := hid (fun (W : World) (q : Kept [] w8 W) => hx4.out W (kz2.step q (by simp)))
                    have zc0 : True := trivial
                    by_cases hcm : cm = 0
                    · have hcn := hg hcm
                      subst hcm
                      subst hcn
                      go_wp2_with (first
                        | (go_at_call 18; have _t := zc1; clear _t zc1; refine (HKn.out _).mono ?_; rintro _ w9 ⟨rfl, h9⟩; replace hw3 := hw3.step h9 (by simp); clear h9)
                        | (go_at_call 18; have _t := zc0; clear _t zc0; refine (HKm.out _).mono ?_; rintro _ w9 ⟨rfl, h9⟩; obtain ⟨y0, y1, _, _⟩ := hx5.out _ h9; replace hw3 := hw3.step h9 (by simp); clear h9; have zc1 : True := trivial)
                        | (go_at_call 15; refine (HA.out _ hw3).mono ?_; rintro _ w8 ⟨rfl, h8⟩; replace hw3 := hw3.step h8 (by simp); clear h8))
                      go_ret
                      exact ⟨rfl, hw3.toBelow (by simp)⟩
                    · have hcb : (cm != 0) = true := by simpa using hcm
                      go_wp2_with (first
                        | (go_at_call 18; have _t := zc0; clear _t zc0; refine (HKm.out _).mono ?_; rintro _ w9 ⟨rfl, h9⟩; replace hw3 := hw3.step h9 (by simp); clear h9)
                        | (go_at_call 15; refine (HA.out _ hw3).mono ?_; rintro _ w8 ⟨rfl, h8⟩; replace hw3 := hw3.step h8 (by simp); clear h8))
                      go_ret
                      exact ⟨rfl, hw3.toBelow (by simp)⟩
                  · have hd : decide (x.1 < x.2) = false := by simpa using hxx
                    go_wp2_with fail
                    go_quiet (fail)
                    have kz2 : Kept [] w5 (w5.drewN nq) := (Kept.refl [] _).drewN nq
                    generalize World.drewN w5 nq = wq at *
                    have hw3 := hw2.step kz2 (by simp)
                    obtain ⟨xa, xb, _, _⟩ := hx4.out _ kz2
                    have hx5 := hid (fun (W : World) (q : Kept [] wq W) => hx4.out W (kz2.step q (by simp)))
                    have zc0 : True := trivial
                    by_cases hcm : cm = 0
                    · have hcn := hg hcm
                      subst hcm
                      subst hcn
                      go_wp2_with (first
                        | (go_at_call 18; have _t := zc1; clear _t zc1; refine (HKn.out _).mono ?_; rintro _ w9 ⟨rfl, h9⟩; replace hw3 := hw3.step h9 (by simp); clear h9)
                        | (go_at_call 18; have _t := zc0; clear _t zc0; refine (HKm.out _).mono ?_; rintro _ w9 ⟨rfl, h9⟩; obtain ⟨y0, y1, _, _⟩ := hx5.out _ h9; replace hw3 := hw3.step h9 (by simp); clear h9; have zc1 : True := trivial)
                        | (go_at_call 15; refine (HA.out _ hw3).mono ?_; rintro _ w8 ⟨rfl, h8⟩; replace hw3 := hw3.step h8 (by simp); clear h8))
                      go_ret
                      exact ⟨rfl, hw3.toBelow (by simp)⟩
                    · have hcb : (cm != 0) = true := by simpa using hcm
                      go_wp2_with (first
                        | (go_at_call 18; have _t := zc0; clear _t zc0; refine (HKm.out _).mono ?_; rintro _ w9 ⟨rfl, h9⟩; replace hw3 := hw3.step h9 (by simp); clear h9)
                        | (go_at_call 15; refine (HA.out _ hw3).mono ?_; rintro _ w8 ⟨rfl, h8⟩; replace hw3 := hw3.step h8 (by simp); clear h8))
                      go_ret
                      exact ⟨rfl, hw3.toBelow (by simp)⟩
                · have e : cc = cy := by have := hci.out; simpa using this
                  subst e
                  simp only at HIc
                  clear hci
                  go_wp2_with fail
                  go_region_held3 (fun w' => (w'.cell? ⟨bc, 0, none⟩ = some (.int .i64 r1) ∧ w'.cell? ⟨bc, 1, none⟩ = some (.int .i64 r2)) ∧ w'.cell? ⟨b, off, none⟩ = some (.int .i64 x.1) ∧ w'.cell? ⟨b, off + 1, none⟩ = some (.int .i64 x.2) ∧ w'.cell? ⟨b, off + 2, none⟩ = some (.int .i64 y.1) ∧ w'.cell? ⟨b, off + 2 + 1, none⟩ = some (.int .i64 y.2))
                          (first
                        | exact hc6.out _ (((((Kept.refl [] _).drew.step h4 (by simp)).step h5 (by simp)).step h6 (by simp)))
                        | exact hc6.out _ ((((Kept.refl [] _).drew.step h4 (by simp)).step h5 (by simp)))
                        | exact hc6.out _ (((Kept.refl [] _).drew.step h4 (by simp)))
                        | exact hc6.out _ ((Kept.refl [] _).drew)
                            | go_keep)
                          (first
                        | (go_at_call 16; have _t := h5; refine (HIy.out _).mono ?_; rintro _ w6 ⟨rfl, h6⟩)
                        | (go_at_call 16; have _t := h4; refine (HIx.out _).mono ?_; rintro _ w5 ⟨rfl, h5⟩)
                        | (go_at_call 16; refine (HIc.out _).mono ?_; rintro _ w4 ⟨rfl, h4⟩))
                  have kz : Kept [] wv w6 := ((((Kept.refl [] wv).drew.step h4 (by simp)).step h5 (by simp)).step h6 (by simp))
                  obtain ⟨_, x0, x1, _, _⟩ := hc6.out _ kz
                  have hx4 := hid (fun (W : World) (q : Kept [] w6 W) => (hc6.out W (kz.step q (by simp))).2)
                  replace hw2 := hw2.step kz (by simp)
                  clear HIc HIy q0 q1 q2 q3 q4 q5 hc6 kz h4 h5 h6
                  have HK0 := hid (fun W => check_any x t 0 W)
                  unfold winV at HK0
                  have hgrow := hid (chk_grow x t)
                  have bsk := Go.bounds_i64 hsk
                  obtain ⟨m, hm, hm1, hm2⟩ : ∃ m : Int, min sk 1000 = m ∧ m ≤ 1000 ∧ -9223372036854775808 ≤ m := ⟨_, rfl, by omega, by omega⟩
                  have HKm := hid (fun W => check_any x t m W)
                  have HKn := hid (fun W => check_any x t (m + 1) W)
                  unfold winV at HKm HKn
                  generalize hc0 : chk x t 0 = c0 at *
                  have hg := hgrow.out m
                  generalize chk x t m = cm at *
                  generalize chk x t (m + 1) = cn at *
                  clear hgrow hc0
                  by_cases hxx : x.1 < x.2
                  · have hd : decide (x.1 < x.2) = true := by simpa using hxx
                    have hck := hchk.out hxx
                    go_wp2_with fail
                    go_region_held3 (fun w' => w'.cell? ⟨b, off, none⟩ = some (.int .i64 x.1) ∧ w'.cell? ⟨b, off + 1, none⟩ = some (.int .i64 x.2) ∧ w'.cell? ⟨b, off + 2, none⟩ = some (.int .i64 y.1) ∧ w'.cell? ⟨b, off + 2 + 1, none⟩ = some (.int .i64 y.2))
                        (first
                          | exact hx4.out _ (((Kept.refl [] _).drew.step h7 (by simp)).step h8 (by simp))
                          | exact hx4.out _ ((Kept.refl [] _).drew.step h7 (by simp))
                          | exact hx4.out _ ((Kept.refl [] _).drew)
                          | go_keep)
                        (first
                          | (go_at_call 18; refine (HK0.out _).mono ?_; rintro _ w7 ⟨rfl, h7⟩)
                          | (go_at_call 16; refine (HIx.out _).mono ?_; rintro _ w8 ⟨rfl, h8⟩))
                    have kz2 : Kept [] w6 w8 := ((Kept.refl [] _).drew.step h7 (by simp)).step h8 (by simp)
                    have hw3 := hw2.step kz2 (by simp)
                    obtain ⟨xa, xb, _, _⟩ := hx4.out _ kz2
                    have hx5 := hid (fun (W : World) (q : Kept [] w8 W) => hx4.out W (kz2.step q (by simp)))
                    have zc0 : True := trivial
                    by_cases hcm : cm = 0
                    · have hcn := hg hcm
                      subst hcm
                      subst hcn
                      go_wp2_with (first
                        | (go_at_call 18; have _t := zc1; clear _t zc1; refine (HKn.out _).mono ?_; rintro _ w9 ⟨rfl, h9⟩; replace hw3 := hw3.step h9 (by simp); clear h9)
                        | (go_at_call 18; have _t := zc0; clear _t zc0; refine (HKm.out _).mono ?_; rintro _ w9 ⟨rfl, h9⟩; obtain ⟨y0, y1, _, _⟩ := hx5.out _ h9; replace hw3 := hw3.step h9 (by simp); clear h9; have zc1 : True := trivial)
                        | (go_at_call 15; refine (HA.out _ hw3).mono ?_; rintro _ w8 ⟨rfl, h8⟩; replace hw3 := hw3.step h8 (by simp); clear h8))
                      go_ret
                      exact ⟨rfl, hw3.toBelow (by simp)⟩
                    · have hcb : (cm != 0) = true := by simpa using hcm
                      go_wp2_with (first
                        | (go_at_call 18; have _t := zc0; clear _t zc0; refine (HKm.out _).mono ?_; rintro _ w9 ⟨rfl, h9⟩; replace hw3 := hw3.step h9 (by simp); clear h9)
                        | (go_at_call 15; refine (HA.out _ hw3).mono ?_; rintro _ w8 ⟨rfl, h8⟩; replace hw3 := hw3.step h8 (by simp); clear h8))
                      go_ret
                      exact ⟨rfl, hw3.toBelow (by simp)⟩
                  · have hd : decide (x.1 < x.2) = false := by simpa using hxx
                    go_wp2_with fail
                    go_quiet (fail)
                    have kz2 : Kept [] w6 (w6.drewN nq) := (Kept.refl [] _).drewN nq
                    generalize World.drewN w6 nq = wq at *
                    have hw3 := hw2.step kz2 (by simp)
                    obtain ⟨xa, xb, _, _⟩ := hx4.out _ kz2
                    have hx5 := hid (fun (W : World) (q : Kept [] wq W) => hx4.out W (kz2.step q (by simp)))
                    have zc0 : True := trivial
                    by_cases hcm : cm = 0
                    · have hcn := hg hcm
                      subst hcm
                      subst hcn
                      go_wp2_with (first
                        | (go_at_call 18; have _t := zc1; clear _t zc1; refine (HKn.out _).mono ?_; rintro _ w9 ⟨rfl, h9⟩; replace hw3 := hw3.step h9 (by simp); clear h9)
                        | (go_at_call 18; have _t := zc0; clear _t zc0; refine (HKm.out _).mono ?_; rintro _ w9 ⟨rfl, h9⟩; obtain ⟨y0, y1, _, _⟩ := hx5.out _ h9; replace hw3 := hw3.step h9 (by simp); clear h9; have zc1 : True := trivial)
                        | (go_at_call 15; refine (HA.out _ hw3).mono ?_; rintro _ w8 ⟨rfl, h8⟩; replace hw3 := hw3.step h8 (by simp); clear h8))
                      go_ret
                      exact ⟨rfl, hw3.toBelow (by simp)⟩
                    · have hcb : (cm != 0) = true := by simpa using hcm
                      go_wp2_with (first
                        | (go_at_call 18; have _t := zc0; clear _t zc0; refine (HKm.out _).mono ?_; rintro _ w9 ⟨rfl, h9⟩; replace hw3 := hw3.step h9 (by simp); clear h9)
                        | (go_at_call 15; refine (HA.out _ hw3).mono ?_; rintro _ w8 ⟨rfl, h8⟩; replace hw3 := hw3.step h8 (by simp); clear h8))
                      go_ret
                      exact ⟨rfl, hw3.toBelow (by simp)⟩
              · have kW : Kept [] wr ((w3.setCell ⟨wr.heap.size, 0, none⟩ (.int .i64 r1)).setCell ⟨wr.heap.size, 1, none⟩ (.int .i64 r2)) :=
                  ((((Kept.refl [] wr).alloc _).drew.step h3 (by simp)).setCell (.inr (Nat.le_refl _)) _).setCell (.inr (Nat.le_refl _)) _
                have hb2 := heap_setCell_same _ _ 1 _ _ (.int .i64 r2) (heap_setCell_same _ _ 0 _ _ (.int .i64 r1) hz)
                simp at hb2
                generalize hwv : (w3.setCell ⟨wr.heap.size, 0, none⟩ (.int .i64 r1)).setCell ⟨wr.heap.size, 1, none⟩ (.int .i64 r2) = wv at *
                generalize hbc : wr.heap.size = bc at *
                clear hwv hbc hz zf0 zf1 zz0 zz1 h3 HC
                replace hw2 := hw2.step kW (by simp)
                have hc6 := hid (fun (W : World) (q : Kept [] wv W) => (show (W.cell? ⟨bc, 0, none⟩ = some (.int .i64 r1) ∧ W.cell? ⟨bc, 1, none⟩ = some (.int .i64 r2)) ∧ W.cell? ⟨b, off, none⟩ = some (.int .i64 x.1) ∧ W.cell? ⟨b, off + 1, none⟩ = some (.int .i64 x.2) ∧ W.cell? ⟨b, off + 2, none⟩ = some (.int .i64 y.1) ∧ W.cell? ⟨b, off + 2 + 1, none⟩ = some (.int .i64 y.2) from
                  ⟨⟨by have := cell_at (q.at hb2 (by simp)) 0; simpa using this, by have := cell_at (q.at hb2 (by simp)) 1; simpa using this⟩, hcell.out W (kW.step q (by simp))⟩))
                obtain ⟨⟨q0, q1⟩, q2, q3, q4, q5⟩ := hc6.out wv (Kept.refl _ _)
                have HIc := hid (fun W => in_any (r1, r2) t W)
                have HIx := hid (fun W => in_any x t W)
                have HIy := hid (fun W => in_any y t W)
                unfold winV at HIc HIx HIy
                have hchk := hid (chk_in x t)
                generalize inW (r1, r2) t = cc at *
                generalize inW x t = cx at *
                generalize inW y t = cy at *
                clear hcell hx0 hx1 hy0 hy1 hb2 kW
                cases rb
                all_goals cases cx
                · simp only at HIc
                  clear hci
                  go_wp2_with fail
                  refine wp_region_held_drew (S := fun w' => (w'.cell? ⟨bc, 0, none⟩ = some (.int .i64 r1) ∧ w'.cell? ⟨bc, 1, none⟩ = some (.int .i64 r2)) ∧ w'.cell? ⟨b, off, none⟩ = some (.int .i64 x.1) ∧ w'.cell? ⟨b, off + 1, none⟩ = some (.int .i64 x.2) ∧ w'.cell? ⟨b, off + 2, none⟩ = some (.int .i64 y.1) ∧ w'.cell? ⟨b, off + 2 + 1, none⟩ = some (.int .i64 y.2)) (by kernel_rfl) (hc6.out _ (Kept.refl [] wv).drew) (fun hHeld => ?_)
                  refine wpAnyH_take (i := 0) (v := ?_) (by simp only [List.getElem?_toArray, List.getElem?_cons_zero]; rfl) (by kernel_rfl) (by kernel_rfl) (by kernel_rfl) (by exact fun _ _ _ h => h) (Or.inl ⟨by rfl, ?_⟩) (by assumption) ?_
                  rotate_left
                  · (intro wq hSw; (try dsimp only at hSw); (first | (go_simp; done) | (go_simp; with_reducible rfl)))
                  try simp only [Act.put, List.setIfInBounds_toArray, List.set_cons_zero, List.set_cons_succ]
                  refine wpAnyH_take (i := 1) (v := ?_) (by simp only [List.getElem?_toArray, List.getElem?_cons_succ, List.getElem?_cons_zero]; rfl) (by kernel_rfl) (by kernel_rfl) (by kernel_rfl) (by exact fun _ _ _ h => h) (Or.inl ⟨by rfl, ?_⟩) (by assumption) ?_
                  rotate_left
                  · (intro wq hSw; (try dsimp only at hSw); (first | (go_simp; done) | (go_simp; with_reducible rfl)))
                  try simp only [Act.put, List.setIfInBounds_toArray, List.set_cons_zero, List.set_cons_succ]
                  refine wpAnyH_take (i := 2) (v := undef) (by simp only [List.getElem?_toArray, List.getElem?_cons_succ, List.getElem?_cons_zero]; rfl) (by kernel_rfl) (by kernel_rfl) (by kernel_rfl) (by exact fun _ _ _ h => h) (Or.inr ⟨by rfl, rfl⟩) (by assumption) ?_
                  try simp only [Act.put, List.setIfInBounds_toArray, List.set_cons_zero, List.set_cons_succ]
                  refine wpAnyH_take (i := 3) (v := undef) (by simp only [List.getElem?_toArray, List.getElem?_cons_succ, List.getElem?_cons_zero]; rfl) (by kernel_rfl) (by kernel_rfl) (by kernel_rfl) (by exact fun _ _ _ h => h) (Or.inr ⟨by rfl, rfl⟩) (by assumption) ?_
                  try simp only [Act.put, List.setIfInBounds_toArray, List.set_cons_zero, List.set_cons_succ]
                  refine wpAnyH_take (i := 4) (v := undef) (by simp only [List.getElem?_toArray, List.getElem?_cons_succ, List.getElem?_cons_zero]; rfl) (by kernel_rfl) (by kernel_rfl) (by kernel_rfl) (by exact fun _ _ _ h => h) (Or.inr ⟨by rfl, rfl⟩) (by assumption) ?_
                  try simp only [Act.put, List.setIfInBounds_toArray, List.set_cons_zero, List.set_cons_succ]
                  refine wpAnyH_take (i := 6) (v := ?_) (by simp only [List.getElem?_toArray, List.getElem?_cons_succ, List.getElem?_cons_zero]; rfl) (by kernel_rfl) (by kernel_rfl) (by kernel_rfl) (by exact fun _ _ _ h => h) (Or.inl ⟨by rfl, ?_⟩) (by assumption) ?_
                  rotate_left
                  · (intro wq hSw; (try dsimp only at hSw); (first | (go_simp; done) | (go_simp; with_reducible rfl)))
                  try simp only [Act.put, List.setIfInBounds_toArray, List.set_cons_zero, List.set_cons_succ]
                  refine wpAnyH_take (i := 7) (v := ?_) (by simp only [List.getElem?_toArray, List.getElem?_cons_succ, List.getElem?_cons_zero]; rfl) (by kernel_rfl) (by kernel_rfl) (by kernel_rfl) (by exact fun _ _ _ h => h) (Or.inl ⟨by rfl, ?_⟩) (by assumption) ?_
                  rotate_left
                  · (intro wq hSw; (try dsimp only at hSw); (first | (go_simp; done) | (go_simp; with_reducible rfl)))
                  try simp only [Act.put, List.setIfInBounds_toArray, List.set_cons_zero, List.set_cons_succ]
                  refine wpAnyH_take (i := 8) (v := ?_) (by simp only [List.getElem?_toArray, List.getElem?_cons_succ, List.getElem?_cons_zero]; rfl) (by kernel_rfl) (by kernel_rfl) (by kernel_rfl) (by exact fun _ _ _ h => h) (Or.inl ⟨by rfl, ?_⟩) (by assumption) ?_
                  rotate_left
                  · (intro wq hSw; (try dsimp only at hSw); (first | (go_simp; done) | (go_simp; with_reducible rfl)))
                  try simp only [Act.put, List.setIfInBounds_toArray, List.set_cons_zero, List.set_cons_succ]
                  refine wpAnyH_take (i := 9) (v := ?_) (by simp only [List.getElem?_toArray, List.getElem?_cons_succ, List.getElem?_cons_zero]; rfl) (by kernel_rfl) (by kernel_rfl) (by kernel_rfl) (by exact fun _ _ _ h => h) (Or.inl ⟨by rfl, ?_⟩) (by assumption) ?_
                  rotate_left
                  · (intro wq hSw; (try dsimp only at hSw); (first | (go_simp; done) | (go_simp; with_reducible rfl)))
                  try simp only [Act.put, List.setIfInBounds_toArray, List.set_cons_zero, List.set_cons_succ]
                  refine wpAnyH_take (i := 5) (v := ?_) (by simp only [List.getElem?_toArray, List.getElem?_cons_succ, List.getElem?_cons_zero]; rfl) (by kernel_rfl) (by kernel_rfl) (by kernel_rfl) (by exact fun _ _ _ h => h) (Or.inl ⟨by rfl, ?_⟩) (by assumption) ?_
                  rotate_left
                  · (intro wq hSw; (try dsimp only at hSw); (first | (go_simp; done) | (go_simp; with_reducible rfl)))
                  try simp only [Act.put, List.setIfInBounds_toArray, List.set_cons_zero, List.set_cons_succ]
                  refine wpAnyH_ready (rs := [10]) (by kernel_rfl) (by simp) ?_
                  refine AllReadyH.cons (by simp only [List.getElem?_toArray, List.getElem?_cons_succ, List.getElem?_cons_zero]; rfl) (fun K hK => ?_) AllReadyH.nil
                  go_simp
                  go_at_call 16
                  refine (HIx.out _).mono ?_
                  rintro _ w5 ⟨rfl, h5⟩
                  go_wp2_with fail
                  refine hK.out _ _ (hc6.out _ (((Kept.refl [] _).drew.step h5 (by simp)))) (fun hHeld => ?_)
                  clear hK K
                  try simp only [Act.put, List.setIfInBounds_toArray, List.set_cons_zero, List.set_cons_succ]
                  refine wpAnyH_take (i := 11) (v := ?_) (by simp only [List.getElem?_toArray, List.getElem?_cons_succ, List.getElem?_cons_zero]; rfl) (by kernel_rfl) (by kernel_rfl) (by kernel_rfl) (by exact fun _ _ _ h => h) (Or.inl ⟨by rfl, ?_⟩) (by assumption) ?_
                  rotate_left
                  · (intro wq hSw; (try dsimp only at hSw); (first | (go_simp; done) | (go_simp; with_reducible rfl)))
                  try simp only [Act.put, List.setIfInBounds_toArray, List.set_cons_zero, List.set_cons_succ]
                  refine wpAnyH_take (i := 12) (v := undef) (by simp only [List.getElem?_toArray, List.getElem?_cons_succ, List.getElem?_cons_zero]; rfl) (by kernel_rfl) (by kernel_rfl) (by kernel_rfl) (by exact fun _ _ _ h => h) (Or.inr ⟨by rfl, rfl⟩) (by assumption) ?_
                  try simp only [Act.put, List.setIfInBounds_toArray, List.set_cons_zero, List.set_cons_succ]
                  refine wpAnyH_take (i := 13) (v := undef) (by simp only [List.getElem?_toArray, List.getElem?_cons_succ, List.getElem?_cons_zero]; rfl) (by kernel_rfl) (by kernel_rfl) (by kernel_rfl) (by exact fun _ _ _ h => h) (Or.inr ⟨by rfl, rfl⟩) (by assumption) ?_
                  try simp only [Act.put, List.setIfInBounds_toArray, List.set_cons_zero, List.set_cons_succ]
                  refine wpAnyH_take (i := 14) (v := undef) (by simp only [List.getElem?_toArray, List.getElem?_cons_succ, List.getElem?_cons_zero]; rfl) (by kernel_rfl) (by kernel_rfl) (by kernel_rfl) (by exact fun _ _ _ h => h) (Or.inr ⟨by rfl, rfl⟩) (by assumption) ?_
                  try simp only [Act.put, List.setIfInBounds_toArray, List.set_cons_zero, List.set_cons_succ]
                  refine wpAnyH_take (i := 15) (v := undef) (by simp only [List.getElem?_toArray, List.getElem?_cons_succ, List.getElem?_cons_zero]; rfl) (by kernel_rfl) (by kernel_rfl) (by kernel_rfl) (by exact fun _ _ _ h => h) (Or.inr ⟨by rfl, rfl⟩) (by assumption) ?_
                  try simp only [Act.put, List.setIfInBounds_toArray, List.set_cons_zero, List.set_cons_succ]
                  refine wpAnyH_take (i := 16) (v := undef) (by simp only [List.getElem?_toArray, List.getElem?_cons_succ, List.getElem?_cons_zero]; rfl) (by kernel_rfl) (by kernel_rfl) (by kernel_rfl) (by exact fun _ _ _ h => h) (Or.inr ⟨by rfl, rfl⟩) (by assumption) ?_
                  try simp only [Act.put, List.setIfInBounds_toArray, List.set_cons_zero, List.set_cons_succ]
                  refine wpAnyH_take (i := 17) (v := ?_) (by simp only [List.getElem?_toArray, List.getElem?_cons_succ, List.getElem?_cons_zero]; rfl) (by kernel_rfl) (by kernel_rfl) (by kernel_rfl) (by exact fun _ _ _ h => h) (Or.inl ⟨by rfl, ?_⟩) (by assumption) ?_
                  rotate_left
                  · (intro wq hSw; (try dsimp only at hSw); (first | (go_simp; done) | (go_simp; with_reducible rfl)))
                  try simp only [Act.put, List.setIfInBounds_toArray, List.set_cons_zero, List.set_cons_succ]
                  refine wpAnyH_take (i := 18) (v := ?_) (by simp only [List.getElem?_toArray, List.getElem?_cons_succ, List.getElem?_cons_zero]; rfl) (by kernel_rfl) (by kernel_rfl) (by kernel_rfl) (by exact fun _ _ _ h => h) (Or.inl ⟨by rfl, ?_⟩) (by assumption) ?_
                  rotate_left
                  · (intro wq hSw; (try dsimp only at hSw); (first | (go_simp; done) | (go_simp; with_reducible rfl)))
                  try simp only [Act.put, List.setIfInBounds_toArray, List.set_cons_zero, List.set_cons_succ]
                  refine wpAnyH_done (by kernel_rfl) ?_ _
                  have kz : Kept [] wv w5 := ((Kept.refl [] wv).drew.step h5 (by simp))
                  obtain ⟨_, x0, x1, _, _⟩ := hc6.out _ kz
                  have hx4 := hid (fun (W : World) (q : Kept [] w5 W) => (hc6.out W (kz.step q (by simp))).2)
                  replace hw2 := hw2.step kz (by simp)
                  clear HIc HIy q0 q1 q2 q3 q4 q5 hc6 kz h5
                  have HK0 := hid (fun W => check_any x t 0 W)
                  unfold winV at HK0
                  have hgrow := hid (chk_grow x t)
                  have bsk := Go.bounds_i64 hsk
                  obtain ⟨m, hm, hm1, hm2⟩ : ∃ m : Int, min sk 1000 = m ∧ m ≤ 1000 ∧ -9223372036854775808 ≤ m := ⟨_, rfl, by omega, by omega⟩
                  have HKm := hid (fun W => check_any x t m W)
                  have HKn := hid (fun W => check_any x t (m + 1) W)
                  unfold winV at HKm HKn
                  generalize hc0 : chk x t 0 = c0 at *
                  have hg := hgrow.out m
                  generalize chk x t m = cm at *
                  generalize chk x t (m + 1) = cn at *
                  clear hgrow hc0
                  by_cases hxx : x.1 < x.2
                  · have hd : decide (x.1 < x.2) = true := by simpa using hxx
                    have hck := hchk.out hxx
                    go_wp2_with fail
                    go_region_held3 (fun w' => w'.cell? ⟨b, off, none⟩ = some (.int .i64 x.1) ∧ w'.cell? ⟨b, off + 1, none⟩ = some (.int .i64 x.2) ∧ w'.cell? ⟨b, off + 2, none⟩ = some (.int .i64 y.1) ∧ w'.cell? ⟨b, off + 2 + 1, none⟩ = some (.int .i64 y.2))
                        (first
                          | exact hx4.out _ (((Kept.refl [] _).drew.step h7 (by simp)).step h8 (by simp))
                          | exact hx4.out _ ((Kept.refl [] _).drew.step h7 (by simp))
                          | exact hx4.out _ ((Kept.refl [] _).drew)
                          | go_keep)
                        (first
                          | (go_at_call 18; refine (HK0.out _).mono ?_; rintro _ w7 ⟨rfl, h7⟩)
                          | (go_at_call 16; refine (HIx.out _).mono ?_; rintro _ w8 ⟨rfl, h8⟩))
                    have kz2 : Kept [] w5 w8 := ((Kept.refl [] _).drew.step h7 (by simp)).step h8 (by simp)
                    have hw3 := hw2.step kz2 (by simp)
                    obtain ⟨xa, xb, _, _⟩ := hx4.out _ kz2
                    have hx5 := hid (fun (W : World) (q : Kept [] w8 W) => hx4.out W (kz2.step q (by simp)))
                    have zc0 : True := trivial
                    by_cases hcm : cm = 0
                    · have hcn := hg hcm
                      subst hcm
                      subst hcn
                      go_wp2_with (first
                        | (go_at_call 18; have _t := zc1; clear _t zc1; refine (HKn.out _).mono ?_; rintro _ w9 ⟨rfl, h9⟩; replace hw3 := hw3.step h9 (by simp); clear h9)
                        | (go_at_call 18; have _t := zc0; clear _t zc0; refine (HKm.out _).mono ?_; rintro _ w9 ⟨rfl, h9⟩; obtain ⟨y0, y1, _, _⟩ := hx5.out _ h9; replace hw3 := hw3.step h9 (by simp); clear h9; have zc1 : True := trivial)
                        | (go_at_call 15; refine (HA.out _ hw3).mono ?_; rintro _ w8 ⟨rfl, h8⟩; replace hw3 := hw3.step h8 (by simp); clear h8))
                      go_ret
                      exact ⟨rfl, hw3.toBelow (by simp)⟩
                    · have hcb : (cm != 0) = true := by simpa using hcm
                      go_wp2_with (first
                        | (go_at_call 18; have _t := zc0; clear _t zc0; refine (HKm.out _).mono ?_; rintro _ w9 ⟨rfl, h9⟩; replace hw3 := hw3.step h9 (by simp); clear h9)
                        | (go_at_call 15; refine (HA.out _ hw3).mono ?_; rintro _ w8 ⟨rfl, h8⟩; replace hw3 := hw3.step h8 (by simp); clear h8))
                      go_ret
                      exact ⟨rfl, hw3.toBelow (by simp)⟩
                  · have hd : decide (x.1 < x.2) = false := by simpa using hxx
                    go_wp2_with fail
                    go_quiet (fail)
                    have kz2 : Kept [] w5 (w5.drewN nq) := (Kept.refl [] _).drewN nq
                    generalize World.drewN w5 nq = wq at *
                    have hw3 := hw2.step kz2 (by simp)
                    obtain ⟨xa, xb, _, _⟩ := hx4.out _ kz2
                    have hx5 := hid (fun (W : World) (q : Kept [] wq W) => hx4.out W (kz2.step q (by simp)))
                    have zc0 : True := trivial
                    by_cases hcm : cm = 0
                    · have hcn := hg hcm
                      subst hcm
                      subst hcn
                      go_wp2_with (first
                        | (go_at_call 18; have _t := zc1; clear _t zc1; refine (HKn.out _).mono ?_; rintro _ w9 ⟨rfl, h9⟩; replace hw3 := hw3.step h9 (by simp); clear h9)
                        | (go_at_call 18; have _t := zc0; clear _t zc0; refine (HKm.out _).mono ?_; rintro _ w9 ⟨rfl, h9⟩; obtain ⟨y0, y1, _, _⟩ := hx5.out _ h9; replace hw3 := hw3.step h9 (by simp); clear h9; have zc1 : True := trivial)
                        | (go_at_call 15; refine (HA.out _ hw3).mono ?_; rintro _ w8 ⟨rfl, h8⟩; replace hw3 := hw3.step h8 (by simp); clear h8))
                      go_ret
                      exact ⟨rfl, hw3.toBelow (by simp)⟩
                    · have hcb : (cm != 0) = true := by simpa using hcm
                      go_wp2_with (first
                        | (go_at_call 18; have _t := zc0; clear _t zc0; refine (HKm.out _).mono ?_; rintro _ w9 ⟨rfl, h9⟩; replace hw3 := hw3.step h9 (by simp); clear h9)
                        | (go_at_call 15; refine (HA.out _ hw3).mono ?_; rintro _ w8 ⟨rfl, h8⟩; replace hw3 := hw3.step h8 (by simp); clear h8))
                      go_ret
                      exact ⟨rfl, hw3.toBelow (by simp)⟩
                · have e : cy = false := by have := hci.out; simpa using this
                  subst e
                  simp only at HIc
                  clear hci
                  go_wp2_with fail
                  refine wp_region_held_drew (S := fun w' => (w'.cell? ⟨bc, 0, none⟩ = some (.int .i64 r1) ∧ w'.cell? ⟨bc, 1, none⟩ = some (.int .i64 r2)) ∧ w'.cell? ⟨b, off, none⟩ = some (.int .i64 x.1) ∧ w'.cell? ⟨b, off + 1, none⟩ = some (.int .i64 x.2) ∧ w'.cell? ⟨b, off + 2, none⟩ = some (.int .i64 y.1) ∧ w'.cell? ⟨b, off + 2 + 1, none⟩ = some (.int .i64 y.2)) (by kernel_rfl) (hc6.out _ (Kept.refl [] wv).drew) (fun hHeld => ?_)
                  refine wpAnyH_take (i := 0) (v := ?_) (by simp only [List.getElem?_toArray, List.getElem?_cons_zero]; rfl) (by kernel_rfl) (by kernel_rfl) (by kernel_rfl) (by exact fun _ _ _ h => h) (Or.inl ⟨by rfl, ?_⟩) (by assumption) ?_
                  rotate_left
                  · (intro wq hSw; (try dsimp only at hSw); (first | (go_simp; done) | (go_simp; with_reducible rfl)))
                  try simp only [Act.put, List.setIfInBounds_toArray, List.set_cons_zero, List.set_cons_succ]
                  refine wpAnyH_take (i := 1) (v := ?_) (by simp only [List.getElem?_toArray, List.getElem?_cons_succ, List.getElem?_cons_zero]; rfl) (by kernel_rfl) (by kernel_rfl) (by kernel_rfl) (by exact fun _ _ _ h => h) (Or.inl ⟨by rfl, ?_⟩) (by assumption) ?_
                  rotate_left
                  · (intro wq hSw; (try dsimp only at hSw); (first | (go_simp; done) | (go_simp; with_reducible rfl)))
                  try simp only [Act.put, List.setIfInBounds_toArray, List.set_cons_zero, List.set_cons_succ]
                  refine wpAnyH_take (i := 2) (v := undef) (by simp only [List.getElem?_toArray, List.getElem?_cons_succ, List.getElem?_cons_zero]; rfl) (by kernel_rfl) (by kernel_rfl) (by kernel_rfl) (by exact fun _ _ _ h => h) (Or.inr ⟨by rfl, rfl⟩) (by assumption) ?_
                  try simp only [Act.put, List.setIfInBounds_toArray, List.set_cons_zero, List.set_cons_succ]
                  refine wpAnyH_take (i := 3) (v := undef) (by simp only [List.getElem?_toArray, List.getElem?_cons_succ, List.getElem?_cons_zero]; rfl) (by kernel_rfl) (by kernel_rfl) (by kernel_rfl) (by exact fun _ _ _ h => h) (Or.inr ⟨by rfl, rfl⟩) (by assumption) ?_
                  try simp only [Act.put, List.setIfInBounds_toArray, List.set_cons_zero, List.set_cons_succ]
                  refine wpAnyH_take (i := 4) (v := undef) (by simp only [List.getElem?_toArray, List.getElem?_cons_succ, List.getElem?_cons_zero]; rfl) (by kernel_rfl) (by kernel_rfl) (by kernel_rfl) (by exact fun _ _ _ h => h) (Or.inr ⟨by rfl, rfl⟩) (by assumption) ?_
                  try simp only [Act.put, List.setIfInBounds_toArray, List.set_cons_zero, List.set_cons_succ]
                  refine wpAnyH_take (i := 6) (v := ?_) (by simp only [List.getElem?_toArray, List.getElem?_cons_succ, List.getElem?_cons_zero]; rfl) (by kernel_rfl) (by kernel_rfl) (by kernel_rfl) (by exact fun _ _ _ h => h) (Or.inl ⟨by rfl, ?_⟩) (by assumption) ?_
                  rotate_left
                  · (intro wq hSw; (try dsimp only at hSw); (first | (go_simp; done) | (go_simp; with_reducible rfl)))
                  try simp only [Act.put, List.setIfInBounds_toArray, List.set_cons_zero, List.set_cons_succ]
                  refine wpAnyH_take (i := 7) (v := ?_) (by simp only [List.getElem?_toArray, List.getElem?_cons_succ, List.getElem?_cons_zero]; rfl) (by kernel_rfl) (by kernel_rfl) (by kernel_rfl) (by exact fun _ _ _ h => h) (Or.inl ⟨by rfl, ?_⟩) (by assumption) ?_
                  rotate_left
                  · (intro wq hSw; (try dsimp only at hSw); (first | (go_simp; done) | (go_simp; with_reducible rfl)))
                  try simp only [Act.put, List.setIfInBounds_toArray, List.set_cons_zero, List.set_cons_succ]
                  refine wpAnyH_take (i := 8) (v := ?_) (by simp only [List.getElem?_toArray, List.getElem?_cons_succ, List.getElem?_cons_zero]; rfl) (by kernel_rfl) (by kernel_rfl) (by kernel_rfl) (by exact fun _ _ _ h => h) (Or.inl ⟨by rfl, ?_⟩) (by assumption) ?_
                  rotate_left
                  · (intro wq hSw; (try dsimp only at hSw); (first | (go_simp; done) | (go_simp; with_reducible rfl)))
                  try simp only [Act.put, List.setIfInBounds_toArray, List.set_cons_zero, List.set_cons_succ]
                  refine wpAnyH_take (i := 9) (v := ?_) (by simp only [List.getElem?_toArray, List.getElem?_cons_succ, List.getElem?_cons_zero]; rfl) (by kernel_rfl) (by kernel_rfl) (by kernel_rfl) (by exact fun _ _ _ h => h) (Or.inl ⟨by rfl, ?_⟩) (by assumption) ?_
                  rotate_left
                  · (intro wq hSw; (try dsimp only at hSw); (first | (go_simp; done) | (go_simp; with_reducible rfl)))
                  try simp only [Act.put, List.setIfInBounds_toArray, List.set_cons_zero, List.set_cons_succ]
                  refine wpAnyH_take (i := 5) (v := ?_) (by simp only [List.getElem?_toArray, List.getElem?_cons_succ, List.getElem?_cons_zero]; rfl) (by kernel_rfl) (by kernel_rfl) (by kernel_rfl) (by exact fun _ _ _ h => h) (Or.inl ⟨by rfl, ?_⟩) (by assumption) ?_
                  rotate_left
                  · (intro wq hSw; (try dsimp only at hSw); (first | (go_simp; done) | (go_simp; with_reducible rfl)))
                  try simp only [Act.put, List.setIfInBounds_toArray, List.set_cons_zero, List.set_cons_succ]
                  refine wpAnyH_ready (rs := [10]) (by kernel_rfl) (by simp) ?_
                  refine AllReadyH.cons (by simp only [List.getElem?_toArray, List.getElem?_cons_succ, List.getElem?_cons_zero]; rfl) (fun K hK => ?_) AllReadyH.nil
                  go_simp
                  go_at_call 16
                  refine (HIx.out _).mono ?_
                  rintro _ w5 ⟨rfl, h5⟩
                  go_wp2_with fail
                  refine hK.out _ _ (hc6.out _ (((Kept.refl [] _).drew.step h5 (by simp)))) (fun hHeld => ?_)
                  clear hK K
                  try simp only [Act.put, List.setIfInBounds_toArray, List.set_cons_zero, List.set_cons_succ]
                  refine wpAnyH_take (i := 11) (v := ?_) (by simp only [List.getElem?_toArray, List.getElem?_cons_succ, List.getElem?_cons_zero]; rfl) (by kernel_rfl) (by kernel_rfl) (by kernel_rfl) (by exact fun _ _ _ h => h) (Or.inl ⟨by rfl, ?_⟩) (by assumption) ?_
                  rotate_left
                  · (intro wq hSw; (try dsimp only at hSw); (first | (go_simp; done) | (go_simp; with_reducible rfl)))
                  try simp only [Act.put, List.setIfInBounds_toArray, List.set_cons_zero, List.set_cons_succ]
                  refine wpAnyH_take (i := 12) (v := ?_) (by simp only [List.getElem?_toArray, List.getElem?_cons_succ, List.getElem?_cons_zero]; rfl) (by kernel_rfl) (by kernel_rfl) (by kernel_rfl) (by exact fun _ _ _ h => h) (Or.inl ⟨by rfl, ?_⟩) (by assumption) ?_
                  rotate_left
                  · (intro wq hSw; (try dsimp only at hSw); (first | (go_simp; done) | (go_simp; with_reducible rfl)))
                  try simp only [Act.put, List.setIfInBounds_toArray, List.set_cons_zero, List.set_cons_succ]
                  refine wpAnyH_take (i := 13) (v := ?_) (by simp only [List.getElem?_toArray, List.getElem?_cons_succ, List.getElem?_cons_zero]; rfl) (by kernel_rfl) (by kernel_rfl) (by kernel_rfl) (by exact fun _ _ _ h => h) (Or.inl ⟨by rfl, ?_⟩) (by assumption) ?_
                  rotate_left
                  · (intro wq hSw; (try dsimp only at hSw); (first | (go_simp; done) | (go_simp; with_reducible rfl)))
                  try simp only [Act.put, List.setIfInBounds_toArray, List.set_cons_zero, List.set_cons_succ]
                  refine wpAnyH_take (i := 14) (v := ?_) (by simp only [List.getElem?_toArray, List.getElem?_cons_succ, List.getElem?_cons_zero]; rfl) (by kernel_rfl) (by kernel_rfl) (by kernel_rfl) (by exact fun _ _ _ h => h) (Or.inl ⟨by rfl, ?_⟩) (by assumption) ?_
                  rotate_left
                  · (intro wq hSw; (try dsimp only at hSw); (first | (go_simp; done) | (go_simp; with_reducible rfl)))
                  try simp only [Act.put, List.setIfInBounds_toArray, List.set_cons_zero, List.set_cons_succ]
                  refine wpAnyH_take (i := 15) (v := ?_) (by simp only [List.getElem?_toArray, List.getElem?_cons_succ, List.getElem?_cons_zero]; rfl) (by kernel_rfl) (by kernel_rfl) (by kernel_rfl) (by exact fun _ _ _ h => h) (Or.inl ⟨by rfl, ?_⟩) (by assumption) ?_
                  rotate_left
                  · (intro wq hSw; (try dsimp only at hSw); (first | (go_simp; done) | (go_simp; with_reducible rfl)))
                  try simp only [Act.put, List.setIfInBounds_toArray, List.set_cons_zero, List.set_cons_succ]
                  refine wpAnyH_ready (rs := [16]) (by kernel_rfl) (by simp) ?_
                  refine AllReadyH.cons (by simp only [List.getElem?_toArray, List.getElem?_cons_succ, List.getElem?_cons_zero]; rfl) (fun K hK => ?_) AllReadyH.nil
                  go_simp
                  go_at_call 16
                  refine (HIy.out _).mono ?_
                  rintro _ w6 ⟨rfl, h6⟩
                  go_wp2_with fail
                  refine hK.out _ _ (hc6.out _ ((((Kept.refl [] _).drew.step h5 (by simp)).step h6 (by simp)))) (fun hHeld => ?_)
                  clear hK K
                  try simp only [Act.put, List.setIfInBounds_toArray, List.set_cons_zero, List.set_cons_succ]
                  refine wpAnyH_take (i := 17) (v := ?_) (by simp only [List.getElem?_toArray, List.getElem?_cons_succ, List.getElem?_cons_zero]; rfl) (by kernel_rfl) (by kernel_rfl) (by kernel_rfl) (by exact fun _ _ _ h => h) (Or.inl ⟨by rfl, ?_⟩) (by assumption) ?_
                  rotate_left
                  · (intro wq hSw; (try dsimp only at hSw); (first | (go_simp; done) | (go_simp; with_reducible rfl)))
                  try simp only [Act.put, List.setIfInBounds_toArray, List.set_cons_zero, List.set_cons_succ]
                  refine wpAnyH_take (i := 18) (v := ?_) (by simp only [List.getElem?_toArray, List.getElem?_cons_succ, List.getElem?_cons_zero]; rfl) (by kernel_rfl) (by kernel_rfl) (by kernel_rfl) (by exact fun _ _ _ h => h) (Or.inl ⟨by rfl, ?_⟩) (by assumption) ?_
                  rotate_left
                  · (intro wq hSw; (try dsimp only at hSw); (first | (go_simp; done) | (go_simp; with_reducible rfl)))
                  try simp only [Act.put, List.setIfInBounds_toArray, List.set_cons_zero, List.set_cons_succ]
                  refine wpAnyH_done (by kernel_rfl) ?_ _
                  have kz : Kept [] wv w6 := (((Kept.refl [] wv).drew.step h5 (by simp)).step h6 (by simp))
                  obtain ⟨_, x0, x1, _, _⟩ := hc6.out _ kz
                  have hx4 := hid (fun (W : World) (q : Kept [] w6 W) => (hc6.out W (kz.step q (by simp))).2)
                  replace hw2 := hw2.step kz (by simp)
                  clear HIc HIy q0 q1 q2 q3 q4 q5 hc6 kz h5 h6
                  have HK0 := hid (fun W => check_any x t 0 W)
                  unfold winV at HK0
                  have hgrow := hid (chk_grow x t)
                  have bsk := Go.bounds_i64 hsk
                  obtain ⟨m, hm, hm1, hm2⟩ : ∃ m : Int, min sk 1000 = m ∧ m ≤ 1000 ∧ -9223372036854775808 ≤ m := ⟨_, rfl, by omega, by omega⟩
                  have HKm := hid (fun W => check_any x t m W)
                  have HKn := hid (fun W => check_any x t (m + 1) W)
                  unfold winV at HKm HKn
                  generalize hc0 : chk x t 0 = c0 at *
                  have hg := hgrow.out m
                  generalize chk x t m = cm at *
                  generalize chk x t (m + 1) = cn at *
                  clear hgrow hc0
                  by_cases hxx : x.1 < x.2
                  · have hd : decide (x.1 < x.2) = true := by simpa using hxx
                    have hck := hchk.out hxx
                    go_wp2_with fail
                    go_region_held3 (fun w' => w'.cell? ⟨b, off, none⟩ = some (.int .i64 x.1) ∧ w'.cell? ⟨b, off + 1, none⟩ = some (.int .i64 x.2) ∧ w'.cell? ⟨b, off + 2, none⟩ = some (.int .i64 y.1) ∧ w'.cell? ⟨b, off + 2 + 1, none⟩ = some (.int .i64 y.2))
                        (first
                          | exact hx4.out _ (((Kept.refl [] _).drew.step h7 (by simp)).step h8 (by simp))
                          | exact hx4.out _ ((Kept.refl [] _).drew.step h7 (by simp))
                          | exact hx4.out _ ((Kept.refl [] _).drew)
                          | go_keep)
                        (first
                          | (go_at_call 18; refine (HK0.out _).mono ?_; rintro _ w7 ⟨rfl, h7⟩)
                          | (go_at_call 16; refine (HIx.out _).mono ?_; rintro _ w8 ⟨rfl, h8⟩))
                    have kz2 : Kept [] w6 w8 := ((Kept.refl [] _).drew.step h7 (by simp)).step h8 (by simp)
                    have hw3 := hw2.step kz2 (by simp)
                    obtain ⟨xa, xb, _, _⟩ := hx4.out _ kz2
                    have hx5 := hid (fun (W : World) (q : Kept [] w8 W) => hx4.out W (kz2.step q (by simp)))
                    have zc0 : True := trivial
                    by_cases hcm : cm = 0
                    · have hcn := hg hcm
                      subst hcm
                      subst hcn
                      go_wp2_with (first
                        | (go_at_call 18; have _t := zc1; clear _t zc1; refine (HKn.out _).mono ?_; rintro _ w9 ⟨rfl, h9⟩; replace hw3 := hw3.step h9 (by simp); clear h9)
                        | (go_at_call 18; have _t := zc0; clear _t zc0; refine (HKm.out _).mono ?_; rintro _ w9 ⟨rfl, h9⟩; obtain ⟨y0, y1, _, _⟩ := hx5.out _ h9; replace hw3 := hw3.step h9 (by simp); clear h9; have zc1 : True := trivial)
                        | (go_at_call 15; refine (HA.out _ hw3).mono ?_; rintro _ w8 ⟨rfl, h8⟩; replace hw3 := hw3.step h8 (by simp); clear h8))
                      go_ret
                      exact ⟨rfl, hw3.toBelow (by simp)⟩
                    · have hcb : (cm != 0) = true := by simpa using hcm
                      go_wp2_with (first
                        | (go_at_call 18; have _t := zc0; clear _t zc0; refine (HKm.out _).mono ?_; rintro _ w9 ⟨rfl, h9⟩; replace hw3 := hw3.step h9 (by simp); clear h9)
                        | (go_at_call 15; refine (HA.out _ hw3).mono ?_; rintro _ w8 ⟨rfl, h8⟩; replace hw3 := hw3.step h8 (by simp); clear h8))
                      go_ret
                      exact ⟨rfl, hw3.toBelow (by simp)⟩
                  · have hd : decide (x.1 < x.2) = false := by simpa using hxx
                    go_wp2_with fail
                    go_quiet (fail)
                    have kz2 : Kept [] w6 (w6.drewN nq) := (Kept.refl [] _).drewN nq
                    generalize World.drewN w6 nq = wq at *
                    have hw3 := hw2.step kz2 (by simp)
                    obtain ⟨xa, xb, _, _⟩ := hx4.out _ kz2
                    have hx5 := hid (fun (W : World) (q : Kept [] wq W) => hx4.out W (kz2.step q (by simp)))
                    have zc0 : True := trivial
                    by_cases hcm : cm = 0
                    · have hcn := hg hcm
                      subst hcm
                      subst hcn
                      go_wp2_with (first
                        | (go_at_call 18; have _t := zc1; clear _t zc1; refine (HKn.out _).mono ?_; rintro _ w9 ⟨rfl, h9⟩; replace hw3 := hw3.step h9 (by simp); clear h9)
                        | (go_at_call 18; have _t := zc0; clear _t zc0; refine (HKm.out _).mono ?_; rintro _ w9 ⟨rfl, h9⟩; obtain ⟨y0, y1, _, _⟩ := hx5.out _ h9; replace hw3 := hw3.step h9 (by simp); clear h9; have zc1 : True := trivial)
                        | (go_at_call 15; refine (HA.out _ hw3).mono ?_; rintro _ w8 ⟨rfl, h8⟩; replace hw3 := hw3.step h8 (by simp); clear h8))
                      go_ret
                      exact ⟨rfl, hw3.toBelow (by simp)⟩
                    · have hcb : (cm != 0) = true := by simpa using hcm
                      go_wp2_with (first
                        | (go_at_call 18; have _t := zc0; clear _t zc0; refine (HKm.out _).mono ?_; rintro _ w9 ⟨rfl, h9⟩; replace hw3 := hw3.step h9 (by simp); clear h9)
                        | (go_at_call 15; refine (HA.out _ hw3).mono ?_; rintro _ w8 ⟨rfl, h8⟩; replace hw3 := hw3.step h8 (by simp); clear h8))
                      go_ret
                      exact ⟨rfl, hw3.toBelow (by simp)⟩
                · have e : cc = false := by have := hci.out; simpa using this
                  subst e
                  simp only at HIc
                  clear hci
                  go_wp2_with fail
                  refine wp_region_held_drew (S := fun w' => (w'.cell? ⟨bc, 0, none⟩ = some (.int .i64 r1) ∧ w'.cell? ⟨bc, 1, none⟩ = some (.int .i64 r2)) ∧ w'.cell? ⟨b, off, none⟩ = some (.int .i64 x.1) ∧ w'.cell? ⟨b, off + 1, none⟩ = some (.int .i64 x.2) ∧ w'.cell? ⟨b, off + 2, none⟩ = some (.int .i64 y.1) ∧ w'.cell? ⟨b, off + 2 + 1, none⟩ = some (.int .i64 y.2)) (by kernel_rfl) (hc6.out _ (Kept.refl [] wv).drew) (fun hHeld => ?_)
                  refine wpAnyH_take (i := 0) (v := ?_) (by simp only [List.getElem?_toArray, List.getElem?_cons_zero]; rfl) (by kernel_rfl) (by kernel_rfl) (by kernel_rfl) (by exact fun _ _ _ h => h) (Or.inl ⟨by rfl, ?_⟩) (by assumption) ?_
                  rotate_left
                  · (intro wq hSw; (try dsimp only at hSw); (first | (go_simp; done) | (go_simp; with_reducible rfl)))
                  try simp only [Act.put, List.setIfInBounds_toArray, List.set_cons_zero, List.set_cons_succ]
                  refine wpAnyH_take (i := 1) (v := ?_) (by simp only [List.getElem?_toArray, List.getElem?_cons_succ, List.getElem?_cons_zero]; rfl) (by kernel_rfl) (by kernel_rfl) (by kernel_rfl) (by exact fun _ _ _ h => h) (Or.inl ⟨by rfl, ?_⟩) (by assumption) ?_
                  rotate_left
                  · (intro wq hSw; (try dsimp only at hSw); (first | (go_simp; done) | (go_simp; with_reducible rfl)))
                  try simp only [Act.put, List.setIfInBounds_toArray, List.set_cons_zero, List.set_cons_succ]
                  refine wpAnyH_take (i := 2) (v := ?_) (by simp only [List.getElem?_toArray, List.getElem?_cons_succ, List.getElem?_cons_zero]; rfl) (by kernel_rfl) (by kernel_rfl) (by kernel_rfl) (by exact fun _ _ _ h => h) (Or.inl ⟨by rfl, ?_⟩) (by assumption) ?_
                  rotate_left
                  · (intro wq hSw; (try dsimp only at hSw); (first | (go_simp; done) | (go_simp; with_reducible rfl)))
                  try simp only [Act.put, List.setIfInBounds_toArray, List.set_cons_zero, List.set_cons_succ]
                  refine wpAnyH_take (i := 3) (v := ?_) (by simp only [List.getElem?_toArray, List.getElem?_cons_succ, List.getElem?_cons_zero]; rfl) (by kernel_rfl) (by kernel_rfl) (by kernel_rfl) (by exact fun _ _ _ h => h) (Or.inl ⟨by rfl, ?_⟩) (by assumption) ?_
                  rotate_left
                  · (intro wq hSw; (try dsimp only at hSw); (first | (go_simp; done) | (go_simp; with_reducible rfl)))
                  try simp only [Act.put, List.setIfInBounds_toArray, List.set_cons_zero, List.set_cons_succ]
                  refine wpAnyH_take (i := 6) (v := ?_) (by simp only [List.getElem?_toArray, List.getElem?_cons_succ, List.getElem?_cons_zero]; rfl) (by kernel_rfl) (by kernel_rfl) (by kernel_rfl) (by exact fun _ _ _ h => h) (Or.inl ⟨by rfl, ?_⟩) (by assumption) ?_
                  rotate_left
                  · (intro wq hSw; (try dsimp only at hSw); (first | (go_simp; done) | (go_simp; with_reducible rfl)))
                  try simp only [Act.put, List.setIfInBounds_toArray, List.set_cons_zero, List.set_cons_succ]
                  refine wpAnyH_take (i := 7) (v := ?_) (by simp only [List.getElem?_toArray, List.getElem?_cons_succ, List.getElem?_cons_zero]; rfl) (by kernel_rfl) (by kernel_rfl) (by kernel_rfl) (by exact fun _ _ _ h => h) (Or.inl ⟨by rfl, ?_⟩) (by assumption) ?_
                  rotate_left
                  · (intro wq hSw; (try dsimp only at hSw); (first | (go_simp; done) | (go_simp; with_reducible rfl)))
                  try simp only [Act.put, List.setIfInBounds_toArray, List.set_cons_zero, List.set_cons_succ]
                  refine wpAnyH_take (i := 8) (v := ?_) (by simp only [List.getElem?_toArray, List.getElem?_cons_succ, List.getElem?_cons_zero]; rfl) (by kernel_rfl) (by kernel_rfl) (by kernel_rfl) (by exact fun _ _ _ h => h) (Or.inl ⟨by rfl, ?_⟩) (by assumption) ?_
                  rotate_left
                  · (intro wq hSw; (try dsimp only at hSw); (first | (go_simp; done) | (go_simp; with_reducible rfl)))
                  try simp only [Act.put, List.setIfInBounds_toArray, List.set_cons_zero, List.set_cons_succ]
                  refine wpAnyH_take (i := 9) (v := ?_) (by simp only [List.getElem?_toArray, List.getElem?_cons_succ, List.getElem?_cons_zero]; rfl) (by kernel_rfl) (by kernel_rfl) (by kernel_rfl) (by exact fun _ _ _ h => h) (Or.inl ⟨by rfl, ?_⟩) (by assumption) ?_
                  rotate_left
                  · (intro wq hSw; (try dsimp only at hSw); (first | (go_simp; done) | (go_simp; with_reducible rfl)))
                  try simp only [Act.put, List.setIfInBounds_toArray, List.set_cons_zero, List.set_cons_succ]
                  refine wpAnyH_ready (rs := [4]) (by kernel_rfl) (by simp) ?_
                  refine AllReadyH.cons (by simp only [List.getElem?_toArray, List.getElem?_cons_succ, List.getElem?_cons_zero]; rfl) (fun K hK => ?_) AllReadyH.nil
                  go_simp
                  go_at_call 16
                  refine (HIc.out _).mono ?_
                  rintro _ w4 ⟨rfl, h4⟩
                  go_wp2_with fail
                  refine hK.out _ _ (hc6.out _ (((Kept.refl [] _).drew.step h4 (by simp)))) (fun hHeld => ?_)
                  clear hK K
                  try simp only [Act.put, List.setIfInBounds_toArray, List.set_cons_zero, List.set_cons_succ]
                  refine wpAnyH_take (i := 5) (v := ?_) (by simp only [List.getElem?_toArray, List.getElem?_cons_succ, List.getElem?_cons_zero]; rfl) (by kernel_rfl) (by kernel_rfl) (by kernel_rfl) (by exact fun _ _ _ h => h) (Or.inl ⟨by rfl, ?_⟩) (by assumption) ?_
                  rotate_left
                  · (intro wq hSw; (try dsimp only at hSw); (first | (go_simp; done) | (go_simp; with_reducible rfl)))
                  try simp only [Act.put, List.setIfInBounds_toArray, List.set_cons_zero, List.set_cons_succ]
                  refine wpAnyH_ready (rs := [10]) (by kernel_rfl) (by simp) ?_
                  refine AllReadyH.cons (by simp only [List.getElem?_toArray, List.getElem?_cons_succ, List.getElem?_cons_zero]; rfl) (fun K hK => ?_) AllReadyH.nil
                  go_simp
                  go_at_call 16
                  refine (HIx.out _).mono ?_
                  rintro _ w5 ⟨rfl, h5⟩
                  go_wp2_with fail
                  refine hK.out _ _ (hc6.out _ ((((Kept.refl [] _).drew.step h4 (by simp)).step h5 (by simp)))) (fun hHeld => ?_)
                  clear hK K
                  try simp only [Act.put, List.setIfInBounds_toArray, List.set_cons_zero, List.set_cons_succ]
                  refine wpAnyH_take (i := 11) (v := ?_) (by simp only [List.getElem?_toArray, List.getElem?_cons_succ, List.getElem?_cons_zero]; rfl) (by kernel_rfl) (by kernel_rfl) (by kernel_rfl) (by exact fun _ _ _ h => h) (Or.inl ⟨by rfl, ?_⟩) (by assumption) ?_
                  rotate_left
                  · (intro wq hSw; (try dsimp only at hSw); (first | (go_simp; done) | (go_simp; with_reducible rfl)))
                  try simp only [Act.put, List.setIfInBounds_toArray, List.set_cons_zero, List.set_cons_succ]
                  refine wpAnyH_take (i := 12) (v := undef) (by simp only [List.getElem?_toArray, List.getElem?_cons_succ, List.getElem?_cons_zero]; rfl) (by kernel_rfl) (by kernel_rfl) (by kernel_rfl) (by exact fun _ _ _ h => h) (Or.inr ⟨by rfl, rfl⟩) (by assumption) ?_
                  try simp only [Act.put, List.setIfInBounds_toArray, List.set_cons_zero, List.set_cons_succ]
                  refine wpAnyH_take (i := 13) (v := undef) (by simp only [List.getElem?_toArray, List.getElem?_cons_succ, List.getElem?_cons_zero]; rfl) (by kernel_rfl) (by kernel_rfl) (by kernel_rfl) (by exact fun _ _ _ h => h) (Or.inr ⟨by rfl, rfl⟩) (by assumption) ?_
                  try simp only [Act.put, List.setIfInBounds_toArray, List.set_cons_zero, List.set_cons_succ]
                  refine wpAnyH_take (i := 14) (v := undef) (by simp only [List.getElem?_toArray, List.getElem?_cons_succ, List.getElem?_cons_zero]; rfl) (by kernel_rfl) (by kernel_rfl) (by kernel_rfl) (by exact fun _ _ _ h => h) (Or.inr ⟨by rfl, rfl⟩) (by assumption) ?_
                  try simp only [Act.put, List.setIfInBounds_toArray, List.set_cons_zero, List.set_cons_succ]
                  refine wpAnyH_take (i := 15) (v := undef) (by simp only [List.getElem?_toArray, List.getElem?_cons_succ, List.getElem?_cons_zero]; rfl) (by kernel_rfl) (by kernel_rfl) (by kernel_rfl) (by exact fun _ _ _ h => h) (Or.inr ⟨by rfl, rfl⟩) (by assumption) ?_
                  try simp only [Act.put, List.setIfInBounds_toArray, List.set_cons_zero, List.set_cons_succ]
                  refine wpAnyH_take (i := 16) (v := undef) (by simp only [List.getElem?_toArray, List.getElem?_cons_succ, List.getElem?_cons_zero]; rfl) (by kernel_rfl) (by kernel_rfl) (by kernel_rfl) (by exact fun _ _ _ h => h) (Or.inr ⟨by rfl, rfl⟩) (by assumption) ?_
                  try simp only [Act.put, List.setIfInBounds_toArray, List.set_cons_zero, List.set_cons_succ]
                  refine wpAnyH_take (i := 17) (v := ?_) (by simp only [List.getElem?_toArray, List.getElem?_cons_succ, List.getElem?_cons_zero]; rfl) (by kernel_rfl) (by kernel_rfl) (by kernel_rfl) (by exact fun _ _ _ h => h) (Or.inl ⟨by rfl, ?_⟩) (by assumption) ?_
                  rotate_left
                  · (intro wq hSw; (try dsimp only at hSw); (first | (go_simp; done) | (go_simp; with_reducible rfl)))
                  try simp only [Act.put, List.setIfInBounds_toArray, List.set_cons_zero, List.set_cons_succ]
                  refine wpAnyH_take (i := 18) (v := ?_) (by simp only [List.getElem?_toArray, List.getElem?_cons_succ, List.getElem?_cons_zero]; rfl) (by kernel_rfl) (by kernel_rfl) (by kernel_rfl) (by exact fun _ _ _ h => h) (Or.inl ⟨by rfl, ?_⟩) (by assumption) ?_
                  rotate_left
                  · (intro wq hSw; (try dsimp only at hSw); (first | (go_simp; done) | (go_simp; with_reducible rfl)))
                  try simp only [Act.put, List.setIfInBounds_toArray, List.set_cons_zero, List.set_cons_succ]
                  refine wpAnyH_done (by kernel_rfl) ?_ _
                  have kz : Kept [] wv w5 := (((Kept.refl [] wv).drew.step h4 (by simp)).step h5 (by simp))
                  obtain ⟨_, x0, x1, _, _⟩ := hc6.out _ kz
                  have hx4 := hid (fun (W : World) (q : Kept [] w5 W) => (hc6.out W (kz.step q (by simp))).2)
                  replace hw2 := hw2.step kz (by simp)
                  clear HIc HIy q0 q1 q2 q3 q4 q5 hc6 kz h4 h5
                  have HK0 := hid (fun W => check_any x t 0 W)
                  unfold winV at HK0
                  have hgrow := hid (chk_grow x t)
                  have bsk := Go.bounds_i64 hsk
                  obtain ⟨m, hm, hm1, hm2⟩ : ∃ m : Int, min sk 1000 = m ∧ m ≤ 1000 ∧ -9223372036854775808 ≤ m := ⟨_, rfl, by omega, by omega⟩
                  have HKm := hid (fun W => check_any x t m W)
                  have HKn := hid (fun W => check_any x t (m + 1) W)
                  unfold winV at HKm HKn
                  generalize hc0 : chk x t 0 = c0 at *
                  have hg := hgrow.out m
                  generalize chk x t m = cm at *
                  generalize chk x t (m + 1) = cn at *
                  clear hgrow hc0
                  by_cases hxx : x.1 < x.2
                  · have hd : decide (x.1 < x.2) = true := by simpa using hxx
                    have hck := hchk.out hxx
                    go_wp2_with fail
                    go_region_held3 (fun w' => w'.cell? ⟨b, off, none⟩ = some (.int .i64 x.1) ∧ w'.cell? ⟨b, off + 1, none⟩ = some (.int .i64 x.2) ∧ w'.cell? ⟨b, off + 2, none⟩ = some (.int .i64 y.1) ∧ w'.cell? ⟨b, off + 2 + 1, none⟩ = some (.int .i64 y.2))
                        (first
                          | exact hx4.out _ (((Kept.refl [] _).drew.step h7 (by simp)).step h8 (by simp))
                          | exact hx4.out _ ((Kept.refl [] _).drew.step h7 (by simp))
                          | exact hx4.out _ ((Kept.refl [] _).drew)
                          | go_keep)
                        (first
                          | (go_at_call 18; refine (HK0.out _).mono ?_; rintro _ w7 ⟨rfl, h7⟩)
                          | (go_at_call 16; refine (HIx.out _).mono ?_; rintro _ w8 ⟨rfl, h8⟩))
                    have kz2 : Kept [] w5 w8 := ((Kept.refl [] _).drew.step h7 (by simp)).step h8 (by simp)
                    have hw3 := hw2.step kz2 (by simp)
                    obtain ⟨xa, xb, _, _⟩ := hx4.out _ kz2
                    have hx5 := hid (fun (W : World) (q : Kept [] w8 W) => hx4.out W (kz2.step q (by simp)))
                    have zc0 : True := trivial
                    by_cases hcm : cm = 0
                    · have hcn := hg hcm
                      subst hcm
                      subst hcn
                      go_wp2_with (first
                        | (go_at_call 18; have _t := zc1; clear _t zc1; refine (HKn.out _).mono ?_; rintro _ w9 ⟨rfl, h9⟩; replace hw3 := hw3.step h9 (by simp); clear h9)
                        | (go_at_call 18; have _t := zc0; clear _t zc0; refine (HKm.out _).mono ?_; rintro _ w9 ⟨rfl, h9⟩; obtain ⟨y0, y1, _, _⟩ := hx5.out _ h9; replace hw3 := hw3.step h9 (by simp); clear h9; have zc1 : True := trivial)
                        | (go_at_call 15; refine (HA.out _ hw3).mono ?_; rintro _ w8 ⟨rfl, h8⟩; replace hw3 := hw3.step h8 (by simp); clear h8))
                      go_ret
                      exact ⟨rfl, hw3.toBelow (by simp)⟩
                    · have hcb : (cm != 0) = true := by simpa using hcm
                      go_wp2_with (first
                        | (go_at_call 18; have _t := zc0; clear _t zc0; refine (HKm.out _).mono ?_; rintro _ w9 ⟨rfl, h9⟩; replace hw3 := hw3.step h9 (by simp); clear h9)
                        | (go_at_call 15; refine (HA.out _ hw3).mono ?_; rintro _ w8 ⟨rfl, h8⟩; replace hw3 := hw3.step h8 (by simp); clear h8))
                      go_ret
                      exact ⟨rfl, hw3.toBelow (by simp)⟩
                  · have hd : decide (x.1 < x.2) = false := by simpa using hxx
                    go_wp2_with fail
                    go_quiet (fail)
                    have kz2 : Kept [] w5 (w5.drewN nq) := (Kept.refl [] _).drewN nq
                    generalize World.drewN w5 nq = wq at *
                    have hw3 := hw2.step kz2 (by simp)
                    obtain ⟨xa, xb, _, _⟩ := hx4.out _ kz2
                    have hx5 := hid (fun (W : World) (q : Kept [] wq W) => hx4.out W (kz2.step q (by simp)))
                    have zc0 : True := trivial
                    by_cases hcm : cm = 0
                    · have hcn := hg hcm
                      subst hcm
                      subst hcn
                      go_wp2_with (first
                        | (go_at_call 18; have _t := zc1; clear _t zc1; refine (HKn.out _).mono ?_; rintro _ w9 ⟨rfl, h9⟩; replace hw3 := hw3.step h9 (by simp); clear h9)
                        | (go_at_call 18; have _t := zc0; clear _t zc0; refine (HKm.out _).mono ?_; rintro _ w9 ⟨rfl, h9⟩; obtain ⟨y0, y1, _, _⟩ := hx5.out _ h9; replace hw3 := hw3.step h9 (by simp); clear h9; have zc1 : True := trivial)
                        | (go_at_call 15; refine (HA.out _ hw3).mono ?_; rintro _ w8 ⟨rfl, h8⟩; replace hw3 := hw3.step h8 (by simp); clear h8))
                      go_ret
                      exact ⟨rfl, hw3.toBelow (by simp)⟩
                    · have hcb : (cm != 0) = true := by simpa using hcm
                      go_wp2_with (first
                        | (go_at_call 18; have _t := zc0; clear _t zc0; refine (HKm.out _).mono ?_; rintro _ w9 ⟨rfl, h9⟩; replace hw3 := hw3.step h9 (by simp); clear h9)
                        | (go_at_call 15; refine (HA.out _ hw3).mono ?_; rintro _ w8 ⟨rfl, h8⟩; replace hw3 := hw3.step h8 (by simp); clear h8))
                      go_ret
                      exact ⟨rfl, hw3.toBelow (by simp)⟩
                · have e : cc = cy := by have := hci.out; simpa using this
                  subst e
                  simp only at HIc
                  clear hci
                  go_wp2_with fail
                  go_region_held3 (fun w' => (w'.cell? ⟨bc, 0, none⟩ = some (.int .i64 r1) ∧ w'.cell? ⟨bc, 1, none⟩ = some (.int .i64 r2)) ∧ w'.cell? ⟨b, off, none⟩ = some (.int .i64 x.1) ∧ w'.cell? ⟨b, off + 1, none⟩ = some (.int .i64 x.2) ∧ w'.cell? ⟨b, off + 2, none⟩ = some (.int .i64 y.1) ∧ w'.cell? ⟨b, off + 2 + 1, none⟩ = some (.int .i64 y.2))
                          (first
                        | exact hc6.out _ (((((Kept.refl [] _).drew.step h4 (by simp)).step h5 (by simp)).step h6 (by simp)))
                        | exact hc6.out _ ((((Kept.refl [] _).drew.step h4 (by simp)).step h5 (by simp)))
                        | exact hc6.out _ (((Kept.refl [] _).drew.step h4 (by simp)))
                        | exact hc6.out _ ((Kept.refl [] _).drew)
                            | go_keep)
                          (first
                        | (go_at_call 16; have _t := h5; refine (HIy.out _).mono ?_; rintro _ w6 ⟨rfl, h6⟩)
                        | (go_at_call 16; have _t := h4; refine (HIx.out _).mono ?_; rintro _ w5 ⟨rfl, h5⟩)
                        | (go_at_call 16; refine (HIc.out _).mono ?_; rintro _ w4 ⟨rfl, h4⟩))
                  have kz : Kept [] wv w6 := ((((Kept.refl [] wv).drew.step h4 (by simp)).step h5 (by simp)).step h6 (by simp))
                  obtain ⟨_, x0, x1, _, _⟩ := hc6.out _ kz
                  have hx4 := hid (fun (W : World) (q : Kept [] w6 W) => (hc6.out W (kz.step q (by simp))).2)
                  replace hw2 := hw2.step kz (by simp)
                  clear HIc HIy q0 q1 q2 q3 q4 q5 hc6 kz h4 h5 h6
                  have HK0 := hid (fun W => check_any x t 0 W)
                  unfold winV at HK0
                  have hgrow := hid (chk_grow x t)
                  have bsk := Go.bounds_i64 hsk
                  obtain ⟨m, hm, hm1, hm2⟩ : ∃ m : Int, min sk 1000 = m ∧ m ≤ 1000 ∧ -9223372036854775808 ≤ m := ⟨_, rfl, by omega, by omega⟩
                  have HKm := hid (fun W => check_any x t m W)
                  have HKn := hid (fun W => check_any x t (m + 1) W)
                  unfold winV at HKm HKn
                  generalize hc0 : chk x t 0 = c0 at *
                  have hg := hgrow.out m
                  generalize chk x t m = cm at *
                  generalize chk x t (m + 1) = cn at *
                  clear hgrow hc0
                  by_cases hxx : x.1 < x.2
                  · have hd : decide (x.1 < x.2) = true := by simpa using hxx
                    have hck := hchk.out hxx
                    go_wp2_with fail
                    go_region_held3 (fun w' => w'.cell? ⟨b, off, none⟩ = some (.int .i64 x.1) ∧ w'.cell? ⟨b, off + 1, none⟩ = some (.int .i64 x.2) ∧ w'.cell? ⟨b, off + 2, none⟩ = some (.int .i64 y.1) ∧ w'.cell? ⟨b, off + 2 + 1, none⟩ = some (.int .i64 y.2))
                        (first
                          | exact hx4.out _ (((Kept.refl [] _).drew.step h7 (by simp)).step h8 (by simp))
                          | exact hx4.out _ ((Kept.refl [] _).drew.step h7 (by simp))
                          | exact hx4.out _ ((Kept.refl [] _).drew)
                          | go_keep)
                        (first
                          | (go_at_call 18; refine (HK0.out _).mono ?_; rintro _ w7 ⟨rfl, h7⟩)
                          | (go_at_call 16; refine (HIx.out _).mono ?_; rintro _ w8 ⟨rfl, h8⟩))
                    have kz2 : Kept [] w6 w8 := ((Kept.refl [] _).drew.step h7 (by simp)).step h8 (by simp)
                    have hw3 := hw2.step kz2 (by simp)
                    obtain ⟨xa, xb, _, _⟩ := hx4.out _ kz2
                    have hx5 := hid (fun (W : World) (q : Kept [] w8 W) => hx4.out W (kz2.step q (by simp)))
                    have zc0 : True := trivial
                    by_cases hcm : cm = 0
                    · have hcn := hg hcm
                      subst hcm
                      subst hcn
                      go_wp2_with (first
                        | (go_at_call 18; have _t := zc1; clear _t zc1; refine (HKn.out _).mono ?_; rintro _ w9 ⟨rfl, h9⟩; replace hw3 := hw3.step h9 (by simp); clear h9)
                        | (go_at_call 18; have _t := zc0; clear _t zc0; refine (HKm.out _).mono ?_; rintro _ w9 ⟨rfl, h9⟩; obtain ⟨y0, y1, _, _⟩ := hx5.out _ h9; replace hw3 := hw3.step h9 (by simp); clear h9; have zc1 : True := trivial)
                        | (go_at_call 15; refine (HA.out _ hw3).mono ?_; rintro _ w8 ⟨rfl, h8⟩; replace hw3 := hw3.step h8 (by simp); clear h8))
                      go_ret
                      exact ⟨rfl, hw3.toBelow (by simp)⟩
                    · have hcb : (cm != 0) = true := by simpa using hcm
                      go_wp2_with (first
                        | (go_at_call 18; have _t := zc0; clear _t zc0; refine (HKm.out _).mono ?_; rintro _ w9 ⟨rfl, h9⟩; replace hw3 := hw3.step h9 (by simp); clear h9)
                        | (go_at_call 15; refine (HA.out _ hw3).mono ?_; rintro _ w8 ⟨rfl, h8⟩; replace hw3 := hw3.step h8 (by simp); clear h8))
                      go_ret
                      exact ⟨rfl, hw3.toBelow (by simp)⟩
                  · have hd : decide (x.1 < x.2) = false := by simpa using hxx
                    go_wp2_with fail
                    go_quiet (fail)
                    have kz2 : Kept [] w6 (w6.drewN nq) := (Kept.refl [] _).drewN nq
                    generalize World.drewN w6 nq = wq at *
                    have hw3 := hw2.step kz2 (by simp)
                    obtain ⟨xa, xb, _, _⟩ := hx4.out _ kz2
                    have hx5 := hid (fun (W : World) (q : Kept [] wq W) => hx4.out W (kz2.step q (by simp)))
                    have zc0 : True := trivial
                    by_cases hcm : cm = 0
                    · have hcn := hg hcm
                      subst hcm
                      subst hcn
                      go_wp2_with (first
                        | (go_at_call 18; have _t := zc1; clear _t zc1; refine (HKn.out _).mono ?_; rintro _ w9 ⟨rfl, h9⟩; replace hw3 := hw3.step h9 (by simp); clear h9)
                        | (go_at_call 18; have _t := zc0; clear _t zc0; refine (HKm.out _).mono ?_; rintro _ w9 ⟨rfl, h9⟩; obtain ⟨y0, y1, _, _⟩ := hx5.out _ h9; replace hw3 := hw3.step h9 (by simp); clear h9; have zc1 : True := trivial)
                        | (go_at_call 15; refine (HA.out _ hw3).mono ?_; rintro _ w8 ⟨rfl, h8⟩; replace hw3 := hw3.step h8 (by simp); clear h8))
                      go_ret
                      exact ⟨rfl, hw3.toBelow (by simp)⟩
                    · have hcb : (cm != 0) = true := by simpa using hcm
                      go_wp2_with (first
                        | (go_at_call 18; have _t := zc0; clear _t zc0; refine (HKm.out _).mono ?_; rintro _ w9 ⟨rfl, h9⟩; replace hw3 := hw3.step h9 (by simp); clear h9)
                        | (go_at_call 15; refine (HA.out _ hw3).mono ?_; rintro _ w8 ⟨rfl, h8⟩; replace hw3 := hw3.step h8 (by simp); clear h8))
                      go_ret
                      exact ⟨rfl, hw3.toBelow (by simp)⟩
end Go.Proofs.YtjjmcmchcmfgnaaDoor
