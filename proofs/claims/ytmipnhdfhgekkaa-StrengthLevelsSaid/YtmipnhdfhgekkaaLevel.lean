/- has, count, Level; the reference's Has, ordinary, Level. -/
import Derived.Test.YtmipnhdfhgekkaaPrf
namespace Go.Proofs.Ytmipnhdfhgekkaa
open Go.RowKit

def hasB (f : Int) (p : Prf) : Bool := p.1 == f
def hasL (l : List Prf) (f : Int) : Bool := l.any (hasB f)

set_option maxHeartbeats 400000 in
theorem has1_any (cb : Nat) (f : Int) (p : Prf) (w : World) (hw : w.cell? ⟨cb, 0, none⟩ = some (.int .i64 f)) :
    Calls Try.prog 41 #[prfV p, .pointer (some ⟨cb, 0, none⟩)] w fun e w' => e = .returned (.bool (hasB f p)) ∧ Kept [] w w' := by
  have hd : (w.alloc (.cells #[.int .i64 p.1, .int .i64 p.2] 36 (0, 0))).cell? ⟨cb, 0, none⟩ = some (.int .i64 f) := by
    rw [((Kept.refl [] w).alloc _).cell (World.block_lt_of_cell? w _ hw) (by simp)]; exact hw
  go_enter Try.func41, Try.ntmps41
  go_wp2
  go_ret
  exact ⟨rfl, (Kept.refl [] w).alloc _⟩

set_option maxHeartbeats 400000 in
theorem containsFunc_has (cb : Nat) (f : Int) {w : World} {a : Option Addr} {cap : Nat} {l : List Prf} (h : PrfsAt w a l) (hw : w.cell? ⟨cb, 0, none⟩ = some (.int .i64 f)) :
    Calls Try.prog 40 #[.slice a l.length cap, .func (.func 41) #[] #[.pointer (some ⟨cb, 0, none⟩)]] w fun e w' => e = .returned (.bool (hasL l f)) ∧ Kept [] w w' := by
  have hg := hid (idx_ge (p := hasB f) (l := l))
  go_enter Try.func40, Try.ntmps40
  go_wp2_with (go_at_call 43; refine (indexFunc_has (.pointer (some ⟨cb, 0, none⟩)) (hasB f) (fun w => w.cell? ⟨cb, 0, none⟩ = some (.int .i64 f)) (fun w w' h k => by rw [k.cell (World.block_lt_of_cell? w _ h) (by simp)]; exact h) (fun p w hw => has1_any cb f p w hw) h hw).mono ?_; rintro e w1 ⟨rfl, hk1⟩)
  go_ret
  exact ⟨ret_bool hg.out, hk1⟩

set_option maxHeartbeats 400000 in
theorem has_any (f : Int) {w : World} {a : Option Addr} {cap : Nat} {l : List Prf} (h : PrfsAt w a l) :
    Calls Try.prog 27 #[.slice a l.length cap, .int .i64 f] w fun e w' => e = .returned (.bool (hasL l f)) ∧ Kept [] w w' := by
  have hd := h.kept ((Kept.refl [] w).alloc (.cells #[.int .i64 f] 34 (0, 0)))
  go_enter Try.func27, Try.ntmps27
  go_wp2_with (go_at_call 40; refine (containsFunc_has _ f hd (by rw [cell_at (heap_alloc_new w _)]; rfl)).mono ?_; rintro e w1 ⟨rfl, hk1⟩)
  go_ret
  exact ⟨rfl, ((Kept.refl [] w).alloc _).step hk1 (by simp)⟩

set_option maxHeartbeats 400000 in
theorem rhas_any (f : Int) {w : World} {a : Option Addr} {cap : Nat} {l : List Prf} (h : PrfsAt w a l) :
    Calls Try.prog 29 #[.slice a l.length cap, .int .i64 f] w fun e w' => e = .returned (.bool (hasL l f)) ∧ w = w' := by
  have hf := h.few
  unfold maxLen at hf
  go_enter Try.func29, Try.ntmps29
  go_wp2
  go_loop [5] (fun i => ∃ k : Nat, k ≤ l.length ∧ i = .int .i64 k ∧ NoneTo (hasB f) l k) (fun i => l.length - (intOf i).toNat)
  case atStart => exact ⟨0, Nat.zero_le _, rfl, fun j hj => by omega⟩
  case round =>
    obtain ⟨k, hk, rfl, hn⟩ := hrel
    by_cases hlt : k < l.length
    · obtain ⟨b, off, rfl, hb, hc0, hc1⟩ := h.at hlt
      have hb1 : (0 : Int) ≤ k := by omega
      have hb2 : (k : Int) < l.length := by omega
      cases hp : hasB f l[k]
      · have he : (l[k].1 == f) = false := hp
        have HP := hid hp
        clear hp
        go_wp2
        go_round
        case rel => exact ⟨k + 1, by omega, by go_num, hn.next hlt HP.out⟩
        case measure => simp [intOf]; omega
      · have he : (l[k].1 == f) = true := hp
        have HP := hid (show hasL l f = true from List.any_eq_true.2 ⟨_, List.getElem_mem hlt, hp⟩)
        clear hp
        go_wp2
        go_ret
        exact ⟨ret_bool HP.out.symm, rfl⟩
    · have hx := hid (show hasL l f = false from List.any_eq_false.2 (fun x hx => by simpa using hn.all (by omega) x hx))
      go_wp2
      go_ret
      exact ⟨ret_bool hx.out.symm, rfl⟩

/-- How many of the first k ordinary factors there are. -/
def cntTo (l : List Prf) : Nat → Int
  | 0 => 0
  | k + 1 => if hasL l ((k : Int) + 1) then cntTo l k + 1 else cntTo l k
def cntL (l : List Prf) : Int := cntTo l 3
theorem cntTo_bd (l : List Prf) : ∀ k : Nat, 0 ≤ cntTo l k ∧ cntTo l k ≤ k
  | 0 => by simp [cntTo]
  | k + 1 => by
    have := cntTo_bd l k
    unfold cntTo
    split <;> omega

set_option maxHeartbeats 400000 in
theorem ordinary_any (w : World) :
    Calls Try.prog 30 #[] w fun e w' => e = .returned (.agg #[.int .i64 1, .int .i64 2, .int .i64 3]) ∧ Kept [] w w' := by
  go_enter Try.func30, Try.ntmps30
  go_wp2
  exact bodyPost_ret (v := .agg #[.int .i64 1, .int .i64 2, .int .i64 3]) (by simp [results, Try.results30, go_sem]) rfl ⟨rfl, (Kept.refl [] w).alloc _⟩

theorem ord_index (k : Nat) (hk : k < 3) (w : World) : (Instr.index 45 (.agg #[.int .i64 1, .int .i64 2, .int .i64 3]) (.int .i64 (k : Int))).run Try.prog w = .ok (.int .i64 ((k : Int) + 1)) w := by
  have i0 : (Instr.index 45 (.agg #[.int .i64 1, .int .i64 2, .int .i64 3]) (.int .i64 0)).run Try.prog w = .ok (.int .i64 1) w := by kernel_rfl
  have i1 : (Instr.index 45 (.agg #[.int .i64 1, .int .i64 2, .int .i64 3]) (.int .i64 1)).run Try.prog w = .ok (.int .i64 2) w := by kernel_rfl
  have i2 : (Instr.index 45 (.agg #[.int .i64 1, .int .i64 2, .int .i64 3]) (.int .i64 2)).run Try.prog w = .ok (.int .i64 3) w := by kernel_rfl
  rcases (show k = 0 ∨ k = 1 ∨ k = 2 by omega) with rfl | rfl | rfl
  · exact i0
  · exact i1
  · exact i2

set_option maxHeartbeats 1000000 in
theorem count_any {w : World} {a : Option Addr} {cap : Nat} {l : List Prf} (h : PrfsAt w a l) :
    Calls Try.prog 26 #[.slice a l.length cap] w fun e w' => e = .returned (.int .i64 (cntL l)) ∧ Kept [] w w' := by
  go_enter Try.func26, Try.ntmps26
  go_wp2_with (go_at_call 30; refine (ordinary_any _).mono ?_; rintro e w1 ⟨rfl, hk1⟩)
  go_loopw [3, 7] (fun n i wr => ∃ k : Nat, k ≤ 3 ∧ i = .int .i64 k ∧ n = .int .i64 (cntTo l k) ∧ Kept [] w wr) (fun _ i _ => 3 - (intOf i).toNat)
  case atStart => exact ⟨0, by omega, rfl, rfl, hk1⟩
  case round =>
    obtain ⟨k, hk, rfl, rfl, hkw⟩ := hrel
    clear hk1
    have hbd := cntTo_bd l k
    obtain ⟨hbd1, hbd2⟩ := hbd
    by_cases hlt : k < 3
    · have hh := has_any (f := (k : Int) + 1) (cap := cap) (h.kept hkw)
      have hix := ord_index k hlt
      cases hp : hasL l ((k : Int) + 1)
      · have e : cntTo l (k + 1) = cntTo l k := by simp [cntTo, hp]
        have E := hid e
        rw [hp] at hh
        have HH := hid hh
        clear e hp hh
        go_wp2_with (go_at_call 27; refine HH.out.mono ?_; rintro e w1 ⟨rfl, hk1⟩)
        go_roundw
        case rel => exact ⟨k + 1, by omega, by go_num, by rw [E.out], hkw.step hk1 (by simp)⟩
        case measure => simp [intOf]; omega
      · have e : cntTo l (k + 1) = cntTo l k + 1 := by simp [cntTo, hp]
        have E := hid e
        rw [hp] at hh
        have HH := hid hh
        clear e hp hh
        go_wp2_with (go_at_call 27; refine HH.out.mono ?_; rintro e w1 ⟨rfl, hk1⟩)
        go_roundw
        case rel => exact ⟨k + 1, by omega, by go_num, by rw [E.out], hkw.step hk1 (by simp)⟩
        case measure => simp [intOf]; omega
    · obtain rfl : k = 3 := by omega
      go_wp2_with fail
      go_ret
      exact ⟨rfl, hkw⟩

/-! ### Level -/
def levelL (l : List Prf) : Int := if 0 < cntL l then cntL l else if hasL l 4 then 1 else 0
theorem cntL_bd (l : List Prf) : 0 ≤ cntL l ∧ cntL l ≤ 3 := cntTo_bd l 3
set_option maxHeartbeats 400000 in
theorem level_any {w : World} {a : Option Addr} {cap : Nat} {l : List Prf} (h : PrfsAt w a l) :
    Calls Try.prog 11 #[.slice a l.length cap] w fun e w' => e = .returned (.int .i64 (levelL l)) ∧ Kept [] w w' := by
  have hbd := (cntL_bd l).1
  by_cases h0 : 0 < cntL l
  · have E := hid (show levelL l = cntL l by simp [levelL, h0])
    go_enter Try.func11, Try.ntmps11
    go_wp2_with (go_at_call 26; refine (count_any h).mono ?_; rintro e w1 ⟨rfl, hk1⟩)
    go_ret
    exact ⟨ret_int E.out.symm, hk1⟩
  · have hz : cntL l = 0 := by omega
    have E := hid (show levelL l = if hasL l 4 then 1 else 0 by simp [levelL, hz])
    have HZ := hid hz
    clear hz
    cases hp : hasL l 4
    · have HP := hid hp
      go_enter Try.func11, Try.ntmps11
      go_wp2_with (first
        | (go_at_call 26; refine (count_any h).mono ?_; rintro e w1 ⟨rfl, hk1⟩)
        | (go_at_call 27; refine (has_any 4 (h.kept hk1)).mono ?_; rintro e w2 ⟨rfl, hk2⟩))
      go_ret
      exact ⟨ret_int (by rw [E.out, HP.out, HZ.out]; rfl), hk1.step hk2 (by simp)⟩
    · have HP := hid hp
      go_enter Try.func11, Try.ntmps11
      go_wp2_with (first
        | (go_at_call 26; refine (count_any h).mono ?_; rintro e w1 ⟨rfl, hk1⟩)
        | (go_at_call 27; refine (has_any 4 (h.kept hk1)).mono ?_; rintro e w2 ⟨rfl, hk2⟩))
      go_ret
      exact ⟨ret_int (by rw [E.out, HP.out]; rfl), hk1.step hk2 (by simp)⟩

set_option maxHeartbeats 1000000 in
theorem rordinary_any {w : World} {a : Option Addr} {cap : Nat} {l : List Prf} (h : PrfsAt w a l) :
    Calls Try.prog 28 #[.slice a l.length cap] w fun e w' => e = .returned (.int .i64 (cntL l)) ∧ w = w' := by
  go_enter Try.func28, Try.ntmps28
  go_wp2_with fail
  go_loop [3, 4] (fun n i => ∃ k : Nat, k ≤ 3 ∧ i = .int .i64 (k + 1) ∧ n = .int .i64 (cntTo l k)) (fun _ i => 4 - (intOf i).toNat)
  case atStart => exact ⟨0, by omega, rfl, rfl⟩
  case round =>
    obtain ⟨k, hk, rfl, rfl⟩ := hrel
    obtain ⟨hbd1, hbd2⟩ := cntTo_bd l k
    by_cases hlt : k < 3
    · have hh := rhas_any (f := (k : Int) + 1) (cap := cap) h
      cases hp : hasL l ((k : Int) + 1)
      · have e : cntTo l (k + 1) = cntTo l k := by simp [cntTo, hp]
        have E := hid e
        rw [hp] at hh
        have HH := hid hh
        clear e hp hh
        go_wp2_with (go_at_call 29; refine HH.out.mono ?_; rintro e w1 ⟨rfl, rfl⟩)
        go_round
        case rel => exact ⟨k + 1, by omega, by go_num, by rw [E.out]⟩
        case measure => simp [intOf]; omega
      · have e : cntTo l (k + 1) = cntTo l k + 1 := by simp [cntTo, hp]
        have E := hid e
        rw [hp] at hh
        have HH := hid hh
        clear e hp hh
        go_wp2_with (go_at_call 29; refine HH.out.mono ?_; rintro e w1 ⟨rfl, rfl⟩)
        go_round
        case rel => exact ⟨k + 1, by omega, by go_num, by rw [E.out]⟩
        case measure => simp [intOf]; omega
    · obtain rfl : k = 3 := by omega
      go_wp2_with fail
      go_ret
      exact ⟨rfl, rfl⟩

set_option maxHeartbeats 400000 in
theorem rlevel_any {w : World} {a : Option Addr} {cap : Nat} {l : List Prf} (h : PrfsAt w a l) :
    Calls Try.prog 12 #[.slice a l.length cap] w fun e w' => e = .returned (.int .i64 (levelL l)) ∧ w = w' := by
  have hbd := (cntL_bd l).1
  by_cases h0 : 0 < cntL l
  · have E := hid (show levelL l = cntL l by simp [levelL, h0])
    have hz : (cntL l == 0) = false := by simp; omega
    go_enter Try.func12, Try.ntmps12
    go_wp2_with (go_at_call 28; refine (rordinary_any h).mono ?_; rintro e w1 ⟨rfl, rfl⟩)
    go_ret
    exact ⟨ret_int E.out.symm, rfl⟩
  · have hz : cntL l = 0 := by omega
    have E := hid (show levelL l = if hasL l 4 then 1 else 0 by simp [levelL, hz])
    have HO := hid (rordinary_any (cap := cap) h)
    rw [hz] at HO
    have HH := hid (rhas_any (cap := cap) 4 h)
    clear hz h0 hbd
    cases hp : hasL l 4
    · rw [hp] at HH
      have HP := hid hp
      go_enter Try.func12, Try.ntmps12
      go_wp2_with (first
        | (go_at_call 28; refine HO.out.mono ?_; rintro e w1 ⟨rfl, rfl⟩)
        | (go_at_call 29; refine HH.out.mono ?_; rintro e w2 ⟨rfl, rfl⟩))
      go_ret
      exact ⟨ret_int (by rw [E.out, HP.out]; rfl), rfl⟩
    · rw [hp] at HH
      have HP := hid hp
      go_enter Try.func12, Try.ntmps12
      go_wp2_with (first
        | (go_at_call 28; refine HO.out.mono ?_; rintro e w1 ⟨rfl, rfl⟩)
        | (go_at_call 29; refine HH.out.mono ?_; rintro e w2 ⟨rfl, rfl⟩))
      go_ret
      exact ⟨ret_int (by rw [E.out, HP.out]; rfl), rfl⟩
end Go.Proofs.Ytmipnhdfhgekkaa
