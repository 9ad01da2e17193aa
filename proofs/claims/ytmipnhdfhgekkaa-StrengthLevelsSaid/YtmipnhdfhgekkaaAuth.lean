/- AuthTime, of the program and of the reference. -/
import Derived.Test.YtmipnhdfhgekkaaLevel
namespace Go.Proofs.Ytmipnhdfhgekkaa
open Go.RowKit

def CInt (w : World) (b o : Nat) (n : Int) : Prop := w.cell? ⟨b, o, none⟩ = some (.int .i64 n)
theorem CInt.lasts : Lasts CInt := by
  intro S w w' b o x h k hb hS
  unfold CInt at *
  rw [k.cell hb hS]; exact h
abbrev IntsAt (w : World) (a : Option Addr) (l : List Int) : Prop := SeqAt 1 CInt w a l

set_option maxHeartbeats 400000 in
theorem index_any (f : Int) {w : World} {a : Option Addr} {cap : Nat} {l : List Int} (h : IntsAt w a l) :
    Calls Try.prog 42 #[.slice a l.length cap, .int .i64 f] w fun e w' => e = .returned (.int .i64 (idx (fun x => f == x) l)) ∧ w = w' := by
  have hf := h.few
  unfold maxLen at hf
  go_enter Try.func42, Try.ntmps42
  go_wp2_with fail
  go_loop [5, 8] (fun _ i => ∃ k : Nat, k ≤ l.length ∧ i = .int .i64 k ∧ NoneTo (fun x => f == x) l k) (fun _ i => l.length - (intOf i).toNat)
  case atStart => exact ⟨0, Nat.zero_le _, rfl, fun j hj => by omega⟩
  case round =>
    obtain ⟨k, hk, rfl, hn⟩ := hrel
    by_cases hlt : k < l.length
    · obtain ⟨b, off, rfl, hb, hc⟩ := h.at hlt
      have hb1 : (0 : Int) ≤ k := by omega
      have hb2 : (k : Int) < l.length := by omega
      have hc' : w.cell? ⟨b, off + k, none⟩ = some (.int .i64 l[k]) := by rw [Nat.mul_one] at hc; exact hc
      clear hc
      cases hp : (f == l[k])
      · have HP := hid hp
        go_wp2
        go_round
        case rel => exact ⟨k + 1, by omega, by go_num, hn.next hlt HP.out⟩
        case measure => simp [intOf]; omega
      · have HP := hid (idx_yes hn hlt hp)
        go_wp2
        go_ret
        exact ⟨ret_int HP.out.symm, rfl⟩
    · have hx := hid (idx_no (hn.all (by omega)))
      go_wp2
      go_ret
      exact ⟨ret_int hx.out.symm, rfl⟩

set_option maxHeartbeats 400000 in
theorem contains_any (f : Int) {w : World} {a : Option Addr} {cap : Nat} {l : List Int} (h : IntsAt w a l) :
    Calls Try.prog 32 #[.slice a l.length cap, .int .i64 f] w fun e w' => e = .returned (.bool (l.any fun x => f == x)) ∧ w = w' := by
  have hg := hid (idx_ge (p := fun x => f == x) (l := l))
  go_enter Try.func32, Try.ntmps32
  go_wp2_with (go_at_call 42; refine (index_any f h).mono ?_; rintro e w' ⟨rfl, rfl⟩)
  go_ret
  exact ⟨ret_bool hg.out, rfl⟩

/-- Does a factor count? -/
def countsB (none : Bool) (f : Int) : Bool := ([1, 2, 3].any fun x => f == x) || (none && f == 4)

set_option maxHeartbeats 400000 in
theorem counts_any (tb nb : Nat) (none : Bool) (f : Int) {w : World} (ht : w.heap[tb]? = some (.cells #[.int .i64 1, .int .i64 2, .int .i64 3] 45 (0, 0))) (hn : w.cell? ⟨nb, 0, Option.none⟩ = some (.bool none)) :
    Calls Try.prog 31 #[.int .i64 f, .pointer (some ⟨tb, 0, Option.none⟩), .pointer (some ⟨nb, 0, Option.none⟩)] w fun e w' => e = .returned (.bool (countsB none f)) ∧ w = w' := by
  have hI : IntsAt w (some ⟨tb, 0, Option.none⟩) [1, 2, 3] := ⟨.inr ⟨tb, 0, rfl, lt_of_heap ht, fun i hi => by
    have hi' : i < 3 := hi
    unfold CInt
    rw [cell_at ht]
    rcases (show i = 0 ∨ i = 1 ∨ i = 2 by omega) with rfl | rfl | rfl <;> rfl⟩, by simp [maxLen]⟩
  have hc := contains_any (cap := 3) f hI
  cases hp : ([1, 2, 3].any fun x => f == x)
  · have E := hid (show countsB none f = (none && f == 4) by simp [countsB, hp])
    rw [hp] at hc
    have HC := hid hc
    clear hc hp
    cases none
    · go_enter Try.func31, Try.ntmps31
      go_wp2_with (go_at_call 32; refine HC.out.mono ?_; rintro e w' ⟨rfl, rfl⟩)
      go_ret
      exact ⟨ret_bool (by rw [E.out]; rfl), rfl⟩
    · go_enter Try.func31, Try.ntmps31
      go_wp2_with (go_at_call 32; refine HC.out.mono ?_; rintro e w' ⟨rfl, rfl⟩)
      go_ret
      exact ⟨ret_bool (by rw [E.out]; rfl), rfl⟩
  · have E := hid (show countsB none f = true by simp [countsB, hp])
    rw [hp] at hc
    have HC := hid hc
    clear hc hp
    go_enter Try.func31, Try.ntmps31
    go_wp2_with (go_at_call 32; refine HC.out.mono ?_; rintro e w' ⟨rfl, rfl⟩)
    go_ret
    exact ⟨ret_bool (by rw [E.out]), rfl⟩

/-! ### AuthTime -/
def authStep (none : Bool) (s : Int × Bool) (p : Prf) : Int × Bool := if countsB none p.1 && (!s.2 || decide (s.1 < p.2)) then (p.2, true) else s
def authTo (l : List Prf) (k : Nat) : Int × Bool := (l.take k).foldl (authStep (cntL l == 0)) (0, false)
def authL (l : List Prf) : Int := (authTo l l.length).1
theorem authTo_snoc (l : List Prf) (k : Nat) (h : k < l.length) : authTo l (k + 1) = authStep (cntL l == 0) (authTo l k) l[k] := by
  unfold authTo
  rw [List.take_succ_eq_append_getElem h, List.foldl_append]
  rfl

set_option maxHeartbeats 1000000 in
set_option maxRecDepth 100000 in
theorem auth_any {w : World} {a : Option Addr} {cap : Nat} {l : List Prf} (h : PrfsAt w a l) :
    Calls Try.prog 13 #[.slice a l.length cap] w fun e w' => e = .returned (.int .i64 (authL l)) ∧ Kept [] w w' := by
  have hf := h.few
  unfold maxLen at hf
  go_enter Try.func13, Try.ntmps13
  go_wp2_with (first
    | (go_at_call 26; refine (count_any h).mono ?_; rintro e w1 ⟨rfl, hk1⟩)
    | (go_at_call 30; refine (ordinary_any _).mono ?_; rintro e w2 ⟨rfl, hk2⟩))
  have ht0 := heap_alloc_new w2 (.cells #[.int .i64 1, .int .i64 2, .int .i64 3] 45 (0, 0))
  have hn0 : w2.cell? ⟨w1.heap.size, 0, none⟩ = some (.bool (cntL l == 0)) := by
    rw [hk2.cell (by simp) (by simp), cell_at (heap_alloc_new w1 _)]; rfl
  have hn1 : (w2.alloc (.cells #[.int .i64 1, .int .i64 2, .int .i64 3] 45 (0, 0))).cell? ⟨w1.heap.size, 0, none⟩ = some (.bool (cntL l == 0)) := by
    rw [((Kept.refl [] w2).alloc _).cell (World.block_lt_of_cell? w2 _ hn0) (by simp)]; exact hn0
  go_loopw [6, 7, 17] (fun b n i wr => ∃ (k : Nat) (best : Int) (any : Bool), k ≤ l.length ∧ i = .int .i64 k ∧ b = .int .i64 best ∧ n = .bool any ∧ authTo l k = (best, any) ∧ Kept [] w wr ∧ wr.heap[w2.heap.size]? = some (.cells #[.int .i64 1, .int .i64 2, .int .i64 3] 45 (0, 0)) ∧ wr.cell? ⟨w1.heap.size, 0, none⟩ = some (.bool (cntL l == 0))) (fun _ _ i _ => l.length - (intOf i).toNat)
  case atStart => exact ⟨0, 0, false, Nat.zero_le _, rfl, rfl, rfl, rfl, ((hk1.alloc _).step hk2 (by simp)).alloc _, ht0, hn1⟩
  case round =>
    obtain ⟨k, best, any, hk, rfl, rfl, rfl, hs, hkw, ht, hnn⟩ := hrel
    have HS := hid hs
    clear ht0 hn0 hn1 hk1 hk2 hs
    by_cases hlt : k < l.length
    · obtain ⟨b, off, rfl, hb, hc0, hc1⟩ := (h.kept hkw).at hlt
      have hb1 : (0 : Int) ≤ k := by omega
      have hb2 : (k : Int) < l.length := by omega
      have hcc := counts_any w2.heap.size w1.heap.size (cntL l == 0) l[k].1 (((Kept.refl [] wr).alloc (.cells #[.int .i64 l[k].1, .int .i64 l[k].2] 36 (0, 0))).at ht (by simp)) (by rw [((Kept.refl [] wr).alloc _).cell (World.block_lt_of_cell? wr _ hnn) (by simp)]; exact hnn)
      cases hp : countsB (cntL l == 0) l[k].1
      · have E := hid (show authStep (cntL l == 0) (best, any) l[k] = (best, any) by simp [authStep, hp])
        rw [hp] at hcc
        have HC := hid hcc
        clear hcc hp
        go_wp2_with (go_at_call 31; refine HC.out.mono ?_; rintro e w' ⟨rfl, rfl⟩)
        go_roundw
        case rel => exact ⟨k + 1, best, any, by omega, by go_num, rfl, rfl, by rw [authTo_snoc l k hlt, HS.out, E.out], hkw.alloc _, ((Kept.refl [] wr).alloc _).at ht (by simp), by rw [((Kept.refl [] wr).alloc _).cell (World.block_lt_of_cell? wr _ hnn) (by simp)]; exact hnn⟩
        case measure => simp [intOf]; omega
      · rw [hp] at hcc
        have HC := hid hcc
        have HP := hid hp
        clear hcc hp
        cases any
        · have E := hid (show authStep (cntL l == 0) (best, false) l[k] = (l[k].2, true) by simp [authStep, HP.out])
          go_wp2_with (go_at_call 31; refine HC.out.mono ?_; rintro e w' ⟨rfl, rfl⟩)
          go_roundw
          case rel => exact ⟨k + 1, _, true, by omega, by go_num, rfl, rfl, by rw [authTo_snoc l k hlt, HS.out, E.out], hkw.alloc _, ((Kept.refl [] wr).alloc _).at ht (by simp), by rw [((Kept.refl [] wr).alloc _).cell (World.block_lt_of_cell? wr _ hnn) (by simp)]; exact hnn⟩
          case measure => simp [intOf]; omega
        · by_cases hlt2 : best < l[k].2
          · have E := hid (show authStep (cntL l == 0) (best, true) l[k] = (l[k].2, true) by simp [authStep, HP.out, hlt2])
            go_wp2_with (go_at_call 31; refine HC.out.mono ?_; rintro e w' ⟨rfl, rfl⟩)
            go_roundw
            case rel => exact ⟨k + 1, _, true, by omega, by go_num, rfl, rfl, by rw [authTo_snoc l k hlt, HS.out, E.out], hkw.alloc _, ((Kept.refl [] wr).alloc _).at ht (by simp), by rw [((Kept.refl [] wr).alloc _).cell (World.block_lt_of_cell? wr _ hnn) (by simp)]; exact hnn⟩
            case measure => simp [intOf]; omega
          · have E := hid (show authStep (cntL l == 0) (best, true) l[k] = (best, true) by simp [authStep, HP.out, hlt2])
            go_wp2_with (go_at_call 31; refine HC.out.mono ?_; rintro e w' ⟨rfl, rfl⟩)
            go_roundw
            case rel => exact ⟨k + 1, _, true, by omega, by go_num, rfl, rfl, by rw [authTo_snoc l k hlt, HS.out, E.out], hkw.alloc _, ((Kept.refl [] wr).alloc _).at ht (by simp), by rw [((Kept.refl [] wr).alloc _).cell (World.block_lt_of_cell? wr _ hnn) (by simp)]; exact hnn⟩
            case measure => simp [intOf]; omega
    · obtain rfl : k = l.length := by omega
      have E := hid (show authL l = best by unfold authL; rw [HS.out])
      go_wp2_with fail
      go_ret
      exact ⟨ret_int E.out.symm, hkw⟩
end Go.Proofs.Ytmipnhdfhgekkaa
