/- OnceFills: the walk. -/
import Derived.Test.YtiaklgmmiadfoaaOpen
namespace Go.Proofs.Ytiaklgmmiadfoaa
open Go.RowKit Go.Maps Go.WideMaps

/-- The entries behind i uses. -/
def fillL (u : Int) (i : Nat) : List Ent := (List.range i).map fun j => ([97, UInt8.ofNat (97 + j)], u)

theorem fillL_len (u : Int) (i : Nat) : (fillL u i).length = i := by simp [fillL]
theorem fillL_succ (u : Int) (i : Nat) : fillL u (i + 1) = fillL u i ++ [([97, UInt8.ofNat (97 + i)], u)] := by simp [fillL, List.range_succ]
theorem fill_word : ∀ i, i < 20 → wordB [97, UInt8.ofNat (97 + i)] = true := by decide
theorem fill_key {i j : Nat} (hi : i < 20) (hj : j < 20) (h : UInt8.ofNat (97 + j) = UInt8.ofNat (97 + i)) : j = i := by
  have := congrArg UInt8.toNat h
  simp at this
  omega
theorem fill_look (u : Int) {i : Nat} {k : List UInt8} (hk : ∀ j, j < i → [97, UInt8.ofNat (97 + j)] ≠ k) : look (fillL u i) k = none := by
  unfold look fillL
  rw [Option.map_eq_none_iff, List.find?_eq_none]
  intro p hp
  obtain ⟨j, hj, rfl⟩ := List.mem_map.1 hp
  simpa using hk j (List.mem_range.1 hj)
theorem fill_live (u n : Int) (i : Nat) : live (fillL u i) n = if n < u then fillL u i else [] := by
  unfold live
  by_cases h : n < u
  · rw [if_pos h]
    exact List.filter_eq_self.2 (fun p hp => by obtain ⟨j, _, rfl⟩ := List.mem_map.1 hp; simpa using h)
  · rw [if_neg h]
    exact List.filter_eq_nil_iff.2 (fun p hp => by obtain ⟨j, _, rfl⟩ := List.mem_map.1 hp; simpa using h)
theorem fill_use {u n : Int} (hun : n < u) {i N : Nat} (hi : i < N) (hN : N ≤ 20) : useL (fillL u i) N [97, UInt8.ofNat (97 + i)] u n = (0, fillL u (i + 1)) := by
  have hw := fill_word i (by omega)
  have hl := fill_look u (i := i) (k := [97, UInt8.ofNat (97 + i)]) (fun j hj e => by
    have := fill_key (i := i) (j := j) (by omega) (by omega) (by simpa using e)
    omega)
  have hlen : ((fillL u i).length : Int) < N := by rw [fillL_len]; omega
  simp only [useL, hw, hl, roomB, roomL, hlen, if_true, fillL_succ]
  rw [if_neg (by simp), if_neg (by omega)]
  simp
theorem fill_b (j : Nat) : [97, UInt8.ofNat (97 + j)] ≠ [98] := by simp
theorem fill_full {u n : Int} (hun : n < u) {N : Nat} : useL (fillL u N) N [98] u n = (3, fillL u N) := by
  have hl := fill_look u (i := N) (k := [98]) (fun j _ => fill_b j)
  have hw : wordB [98] = true := by decide
  have hr : roomL (fillL u N) N n = fillL u N := by
    unfold roomL
    rw [fillL_len, if_neg (by omega), fill_live, if_pos hun]
  have hb : roomB (fillL u N) N n = false := by unfold roomB; rw [hr, fillL_len]; simp
  simp only [useL, hw, hl, hb, hr]
  rw [if_neg (by simp), if_neg (by omega)]
  simp
theorem fill_next {u : Int} {N : Nat} (hN : 0 < N) : useL (fillL u N) N [98] (u + 1) u = (0, [([98], u + 1)]) := by
  have hl := fill_look u (i := N) (k := [98]) (fun j _ => fill_b j)
  have hw : wordB [98] = true := by decide
  have hr : roomL (fillL u N) N u = [] := by
    unfold roomL
    rw [fillL_len, if_neg (by omega), fill_live, if_neg (by omega)]
  have hb : roomB (fillL u N) N u = true := by unfold roomB; rw [hr]; simp; omega
  simp only [useL, hw, hl, hb, hr]
  rw [if_neg (by simp), if_neg (by omega)]
  simp
theorem fill_str (k : Nat) : ((⟨#[97]⟩ : ByteArray) ++ strOfNums [97 + (k : Int)]).data.toList = [97, UInt8.ofNat (97 + k)] := by
  have e : (97 + (k : Int)).toNat = 97 + k := by omega
  simp [strOfNums, e]
theorem fill_strlen (k : Nat) : ((⟨#[97]⟩ : ByteArray) ++ strOfNums [97 + (k : Int)]).size ≤ maxLen := by
  have h := fill_str k
  have h2 := congrArg List.length h
  simp only [Array.length_toList] at h2
  exact Nat.le_trans (Nat.le_of_eq (show _ = 2 from h2)) (by decide)

set_option maxHeartbeats 2000000 in
set_option maxRecDepth 100000 in
theorem fills_walk {w : World} (m : Int) (hm : (Lit.int .u8 m).wf = true) (u : Int) (hu : (Lit.int .u16 u).wf = true) (n : Int) (hn : (Lit.int .u16 n).wf = true) :
    Calls Try.prog 7 #[.int .u8 m, .int .u16 u, .int .u16 n] w fun e w' => e = .returned (.bool true) ∧ Below w.heap.size w w' := by
  have hm1 : 0 ≤ m ∧ m ≤ 255 := by simp [Lit.wf, IntKind.min, IntKind.max, IntKind.signed, IntKind.bits] at hm; omega
  have hu1 : 0 ≤ u ∧ u ≤ 65535 := by simp [Lit.wf, IntKind.min, IntKind.max, IntKind.signed, IntKind.bits] at hu; omega
  have hn1 : 0 ≤ n ∧ n ≤ 65535 := by simp [Lit.wf, IntKind.min, IntKind.max, IntKind.signed, IntKind.bits] at hn; omega
  obtain ⟨hm1, hm2⟩ := hm1
  obtain ⟨hu1, hu2⟩ := hu1
  obtain ⟨hn1, hn2⟩ := hn1
  clear hm hu hn
  have hr0 : 0 ≤ m % 20 := by omega
  have hr1 : m % 20 < 20 := by omega
  by_cases hun : u ≤ n
  · go_enter Try.func7, Try.ntmps7
    go_wp2_with (first
      | (go_at_call 11; refine (new_yes _ (by omega) (by omega) _).mono ?_; rintro e w1 ⟨rfl, hr1, hk1, hs1⟩)
      | (go_at_call 13; refine (use_to (c := 13) (L' := []) hr1 (by decide) (by rw [lim_id u hu1 (by omega), lim_id n hn1 (by omega)]; simp [useL, hun]; decide)).mono ?_; rintro e w2 ⟨rfl, hr2, hk2⟩)
      | (go_at_call 19; refine (len_to (c := 0) hr2 (by rfl)).mono ?_; rintro e w' ⟨rfl, rfl⟩)
      | (go_at_call 10; refine (alive_any _).mono ?_; rintro e w3 ⟨rfl, hk3⟩))
    go_ret
    exact ⟨rfl, ((hk1.trans hk2 (by simp)).step hk3 (by simp)).toBelow (by simp)⟩
  · go_enter Try.func7, Try.ntmps7
    go_wp2_with (go_at_call 11; refine (new_yes _ (by omega) (by omega) _).mono ?_; rintro e w1 ⟨rfl, hr1, hk1, hs1⟩)
    go_loopw [10] (fun i wr => ∃ k : Nat, (k : Int) ≤ 1 + m % 20 ∧ i = .int .i64 k ∧ RegAt wr (w.heap.size + 1) w.heap.size (1 + m % 20) (fillL u k) ∧ Kept [] w wr) (fun i _ => (1 + m % 20 - intOf i).toNat)
    case atStart => exact ⟨0, by omega, rfl, hr1, hk1⟩
    case round =>
      obtain ⟨k, hk, rfl, hrg, hkw⟩ := hrel
      clear hr1 hk1 hs1
      by_cases hlt : (k : Int) < 1 + m % 20
      · have hcv := run_convert_bytes_arg (P := Try.prog) (wr.alloc (.cells #[.int .u8 (97 + (k : Int))] 5 (0, 0))) 45 5 Try.underlying45 Try.underlying5 wr.heap.size 0 1 1 [97 + (k : Int)] rfl (fun i hi => by
          obtain rfl : i = 0 := by omega
          rw [cell_at (heap_alloc_new wr _)]; rfl) 9 Try.underlying9
        have hk20 : k < 20 := by omega
        have hrd := hrg.kept (S := []) ((Kept.refl [] wr).alloc (.cells #[.int .u8 (97 + (k : Int))] 5 (0, 0))) (by simp) (by simp)
        have E := hid (show useL (fillL u k) (1 + m % 20) ((⟨#[97]⟩ : ByteArray) ++ strOfNums [97 + (k : Int)]).data.toList (lim u) (lim n) = (0, fillL u (k + 1)) by
          rw [fill_str, lim_id u hu1 (by omega), lim_id n hn1 (by omega)]
          have := fill_use (u := u) (n := n) (by omega) (i := k) (N := (1 + m % 20).toNat) (by omega) (by omega)
          rwa [show (((1 + m % 20).toNat : Nat) : Int) = 1 + m % 20 by omega] at this)
        have E2 := hid (fillL_len u (k + 1))
        go_wp2_with (first
          | (go_at_call 13; refine (use_to hrd (fill_strlen k) E.out).mono ?_; rintro e w2 ⟨rfl, hr2, hk2⟩)
          | (go_at_call 19; refine (len_to (c := (k : Int) + 1) hr2 (by rw [E2.out]; omega)).mono ?_; rintro e w' ⟨rfl, rfl⟩))
        go_roundw
        case rel => exact ⟨k + 1, by omega, by go_num, hr2, (hkw.alloc _).trans hk2 (by simp)⟩
        case measure => simp [intOf]; omega
      · obtain ⟨N, hN, hN0⟩ : ∃ N : Nat, (N : Int) = 1 + m % 20 ∧ 0 < N := ⟨(1 + m % 20).toNat, by omega, by omega⟩
        obtain rfl : k = N := by omega
        have F1 := hid (show useL (fillL u k) (1 + m % 20) (⟨#[98]⟩ : ByteArray).data.toList (lim u) (lim n) = (3, fillL u k) by
          rw [lim_id u hu1 (by omega), lim_id n hn1 (by omega), ← hN]
          exact fill_full (by omega))
        have F2 := hid (show useL (fillL u k) (1 + m % 20) (⟨#[98]⟩ : ByteArray).data.toList (lim (u + 1)) (lim u) = (0, [([98], u + 1)]) by
          rw [lim_id u hu1 (by omega), lim_id (u + 1) (by omega) (by omega), ← hN]
          exact fill_next hN0)
        clear hN
        have tok : True := trivial
        go_wp2_with (first
          | (go_at_call 13; have _t := tok; refine (use_to hrg (by decide) F1.out).mono ?_; rintro e w2 ⟨rfl, hr2, hk2⟩; clear tok)
          | (go_at_call 13; refine (use_to hr2 (by decide) F2.out).mono ?_; rintro e w3 ⟨rfl, hr3, hk3⟩)
          | (go_at_call 19; refine (len_to (c := 1) hr3 (by rfl)).mono ?_; rintro e w' ⟨rfl, rfl⟩)
          | (go_at_call 10; refine (alive_any _).mono ?_; rintro e w4 ⟨rfl, hk4⟩))
        go_ret
        exact ⟨rfl, (((hkw.trans hk2 (by simp)).trans hk3 (by simp)).step hk4 (by simp)).toBelow (by simp)⟩

end Go.Proofs.Ytiaklgmmiadfoaa
