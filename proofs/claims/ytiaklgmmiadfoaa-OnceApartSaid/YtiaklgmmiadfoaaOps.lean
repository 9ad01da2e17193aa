/- Scripts of calls as they lie in memory; few; play. -/
import Derived.Test.YtiaklgmmiadfoaaAlive
namespace Go.Proofs.Ytiaklgmmiadfoaa
open Go.RowKit Go.Maps Go.WideMaps

structure OpT where
  kind : Int
  id : ByteArray
  till : Int
  now : Int
def OpCells (w : World) (b o : Nat) (x : OpT) : Prop :=
  w.cell? ⟨b, o, none⟩ = some (.int .i64 x.kind) ∧ w.cell? ⟨b, o + 1, none⟩ = some (.string x.id) ∧ w.cell? ⟨b, o + 2, none⟩ = some (.int .i64 x.till) ∧ w.cell? ⟨b, o + 3, none⟩ = some (.int .i64 x.now)
/-- A script in memory. -/
structure OpsAt (w : World) (a : Option Addr) (l : List OpT) : Prop where
  cells : l = [] ∨ ∃ b off, a = some ⟨b, off, none⟩ ∧ b < w.heap.size ∧ ∀ i (h : i < l.length), OpCells w b (off + i * 4) l[i]
  sized : ∀ x ∈ l, x.id.size ≤ maxLen
  few : l.length ≤ maxLen
theorem OpsAt.kept {B : Nat} {w w' : World} {a : Option Addr} {l : List OpT} (h : OpsAt w a l) (k : Below B w w') (hB : w.heap.size ≤ B ∨ ∀ x, a = some x → x.block < B) : OpsAt w' a l := by
  refine ⟨?_, h.sized, h.few⟩
  rcases h.cells with hn | ⟨b, off, rfl, hb, hc⟩
  · exact .inl hn
  · have hbB : b < B := by
      rcases hB with hB | hB
      · omega
      · exact hB _ rfl
    refine .inr ⟨b, off, rfl, Nat.lt_of_lt_of_le hb k.size, fun i hi => ?_⟩
    obtain ⟨h0, h1, h2, h3⟩ := hc i hi
    exact ⟨by rw [k.cell hbB]; exact h0, by rw [k.cell hbB]; exact h1, by rw [k.cell hbB]; exact h2, by rw [k.cell hbB]; exact h3⟩
theorem OpsAt.keptS {S : List Nat} {w w' : World} {a : Option Addr} {l : List OpT} (h : OpsAt w a l) (k : Kept S w w') (hS : 0 < l.length → ∀ x, a = some x → x.block ∉ S) : OpsAt w' a l := by
  refine ⟨?_, h.sized, h.few⟩
  rcases Nat.eq_zero_or_pos l.length with h0 | h0
  · exact .inl (List.length_eq_zero_iff.1 h0)
  rcases h.cells with hn | ⟨b, off, rfl, hb, hc⟩
  · exact .inl hn
  · have hbS : b ∉ S := hS h0 _ rfl
    refine .inr ⟨b, off, rfl, Nat.lt_of_lt_of_le hb k.size, fun i hi => ?_⟩
    obtain ⟨h0, h1, h2, h3⟩ := hc i hi
    exact ⟨by rw [k.cell hb hbS]; exact h0, by rw [k.cell hb hbS]; exact h1, by rw [k.cell hb hbS]; exact h2, by rw [k.cell hb hbS]; exact h3⟩
/-- The cells of call number i. -/
theorem OpsAt.at {w : World} {a : Option Addr} {l : List OpT} (h : OpsAt w a l) {i : Nat} (hi : i < l.length) : ∃ b off, a = some ⟨b, off, none⟩ ∧ b < w.heap.size ∧ OpCells w b (off + i * 4) l[i] := by
  rcases h.cells with rfl | ⟨b, off, rfl, hb, hc⟩
  · simp at hi
  · exact ⟨b, off, rfl, hb, hc i hi⟩

def fewB (l : List OpT) : Bool := l.all (fun x => decide (x.id.size ≤ 100)) && decide (l.length ≤ 25)
def FewTo (l : List OpT) (k : Nat) : Prop := ∀ j (_ : j < k) (h : j < l.length), l[j].id.size ≤ 100
theorem FewTo.next {l : List OpT} {k : Nat} (h : FewTo l k) (hk : k < l.length) (hx : l[k].id.size ≤ 100) : FewTo l (k + 1) := by
  intro j hj hjl
  by_cases e : j = k
  · subst e; exact hx
  · exact h j (by omega) hjl
theorem FewTo.all {l : List OpT} {k : Nat} (h : FewTo l k) (hk : l.length ≤ k) : fewB l = decide (l.length ≤ 25) := by
  unfold fewB
  rw [List.all_eq_true.2 (fun x hx => by
    obtain ⟨j, hj, rfl⟩ := List.getElem_of_mem hx
    simpa using h j (by omega) hj)]
  rfl
theorem fewB_no {l : List OpT} {k : Nat} (hk : k < l.length) (hx : ¬ l[k].id.size ≤ 100) : fewB l = false := by
  unfold fewB
  rw [List.all_eq_false.2 ⟨l[k], List.getElem_mem _, by simpa using hx⟩]
  rfl

set_option maxHeartbeats 400000 in
theorem few_any {w : World} {a : Option Addr} {cap : Nat} {l : List OpT} (h : OpsAt w a l) :
    Calls Try.prog 9 #[.slice a l.length cap] w fun e w' => e = .returned (.bool (fewB l)) ∧ w = w' := by
  have hf := h.few
  unfold maxLen at hf
  go_enter Try.func9, Try.ntmps9
  go_wp2
  go_loop [3] (fun i => ∃ k : Nat, k ≤ l.length ∧ i = .int .i64 k ∧ FewTo l k) (fun i => l.length - (intOf i).toNat)
  case atStart => exact ⟨0, Nat.zero_le _, rfl, fun j hj => by omega⟩
  case round =>
    obtain ⟨k, hk, rfl, ha⟩ := hrel
    by_cases hlt : k < l.length
    · obtain ⟨b, off, rfl, _, hc⟩ := h.at hlt
      obtain ⟨_, hc1, _, _⟩ := hc
      have hsz := h.sized _ (List.getElem_mem hlt)
      unfold maxLen at hsz
      by_cases hx : l[k].id.size ≤ 100
      · have hx' : ¬ (100 : Int) < l[k].id.size := by omega
        go_wp2
        go_round
        case rel => exact ⟨k + 1, by omega, by go_num, ha.next hlt hx⟩
        case measure => simp [intOf]; omega
      · have hx' : (100 : Int) < l[k].id.size := by omega
        go_wp2
        go_ret
        exact ⟨ret_bool (by rw [fewB_no hlt hx]), rfl⟩
    · have hb := hid (ha.all (by omega))
      go_wp2
      go_ret
      refine ⟨ret_bool ?_, rfl⟩
      rw [hb.out, Bool.eq_iff_iff, decide_eq_true_eq, decide_eq_true_eq]; omega

/-! ### play -/
def stepL (most : Int) (L : List Ent) (x : OpT) : List Ent :=
  if x.kind = 0 then (useL L most x.id.data.toList (lim x.till) (lim x.now)).2 else if x.kind = 2 then live L (lim x.now) else L
def playL (most : Int) (L : List Ent) (l : List OpT) : List Ent := l.foldl (stepL most) L
theorem playL_snoc (most : Int) (L : List Ent) (l : List OpT) (k : Nat) (h : k < l.length) : playL most L (l.take (k + 1)) = stepL most (playL most L (l.take k)) l[k] := by
  unfold playL
  rw [List.take_succ_eq_append_getElem h, List.foldl_append]
  rfl

set_option maxHeartbeats 1000000 in
set_option maxRecDepth 100000 in
theorem play_reg {w : World} {rb mb : Nat} {most : Int} {L : List Ent} (hr : RegAt w rb mb most L) {a : Option Addr} {cap : Nat} {l : List OpT} (h : OpsAt w a l) (hfar : 0 < l.length → ∀ x, a = some x → x.block ≠ mb) :
    Calls Try.prog 21 #[.pointer (some ⟨rb, 0, none⟩), .slice a l.length cap] w fun e w' => e = .returned (.tuple #[]) ∧ RegAt w' rb mb most (playL most L l) ∧ Kept [mb] w w' := by
  have hf := h.few
  unfold maxLen at hf
  go_enter Try.func21, Try.ntmps21
  go_wp2
  go_loopw [4] (fun i wr => ∃ k : Nat, k ≤ l.length ∧ i = .int .i64 k ∧ RegAt wr rb mb most (playL most L (l.take k)) ∧ Kept [mb] w wr) (fun i _ => l.length - (intOf i).toNat)
  case atStart => exact ⟨0, Nat.zero_le _, rfl, hr, Kept.refl _ _⟩
  case round =>
    obtain ⟨k, hk, rfl, hrg, hkw⟩ := hrel
    by_cases hlt : k < l.length
    · have Hst := hid (playL_snoc most L l k hlt)
      have hsz := h.sized _ (List.getElem_mem hlt)
      obtain ⟨b, off, rfl, hb, hc⟩ := h.at hlt
      have hbm : b ∉ [mb] := by simpa using hfar (by omega) _ rfl
      obtain ⟨hc0, hc1, hc2, hc3⟩ := hc
      rw [← hkw.cell hb hbm] at hc0 hc1 hc2 hc3
      have hb1 : (0 : Int) ≤ k := by omega
      have hb2 : (k : Int) < l.length := by omega
      generalize l[k] = x at *
      by_cases h0 : x.kind = 0
      · have k0 : (x.kind == 0) = true := by simpa using h0
        have e : stepL most (playL most L (l.take k)) x = (useL (playL most L (l.take k)) most x.id.data.toList (lim x.till) (lim x.now)).2 := by simp [stepL, h0]
        have E := hid e
        clear e h0
        have hrd : RegAt wr.drew rb mb most (playL most L (l.take k)) := hrg.kept (Kept.refl [] wr).drew (by simp) (by simp)
        go_wp2_with fail
        go_still_tail 16, (by kernel_rfl)
        change wpList _ _ _ _ _ wr.drew
        go_wp2_with (go_at_call 13; refine (use_reg hrd _ hsz _ _).mono ?_; rintro e w1 ⟨rfl, hr1, hk1⟩)
        go_roundw
        case rel => exact ⟨k + 1, by omega, by go_num, by rw [Hst.out, E.out]; exact hr1, hkw.drew.step hk1 (by simp)⟩
        case measure => simp [intOf]; omega
      · have k0 : (x.kind == 0) = false := by simpa using h0
        by_cases h1 : x.kind = 1
        · have k1 : (x.kind == 1) = true := by simpa using h1
          have e : stepL most (playL most L (l.take k)) x = playL most L (l.take k) := by simp [stepL, h1]
          have E := hid e
          have hrd : ∀ m, RegAt (wr.drewN m) rb mb most (playL most L (l.take k)) := fun m => hrg.kept ((Kept.refl [] wr).drewN m) (by simp) (by simp)
          clear e h0 h1
          go_wp2_with fail
          go_quiet ((go_at_call 15; exact Calls.quiet_of (seen_reg (hrd _) _ hsz _)))
          go_wp2_with fail
          go_roundw
          case rel => exact ⟨k + 1, by omega, by go_num, by rw [Hst.out, E.out]; exact hrd _, hkw.drewN _⟩
          case measure => simp [intOf]; omega
        · have k1 : (x.kind == 1) = false := by simpa using h1
          by_cases h2 : x.kind = 2
          · have k2 : (x.kind == 2) = true := by simpa using h2
            have e : stepL most (playL most L (l.take k)) x = live (playL most L (l.take k)) (lim x.now) := by simp [stepL, h2]
            have E := hid e
            clear e h0 h1 h2
            go_wp2_with (go_at_call 17; refine (purge_reg hrg _).mono ?_; rintro e w1 ⟨rfl, hr1, hk1⟩)
            go_roundw
            case rel => exact ⟨k + 1, by omega, by go_num, by rw [Hst.out, E.out]; exact hr1, hkw.step hk1 (by simp)⟩
            case measure => simp [intOf]; omega
          · have k2 : (x.kind == 2) = false := by simpa using h2
            have e : stepL most (playL most L (l.take k)) x = playL most L (l.take k) := by simp [stepL, h0, h2]
            have E := hid e
            clear e h0 h1 h2
            go_wp2_with fail
            go_roundw
            case rel => exact ⟨k + 1, by omega, by go_num, by rw [Hst.out, E.out]; exact hrg, hkw⟩
            case measure => simp [intOf]; omega
    · have e1 : l.take k = l := List.take_of_length_le (by omega)
      rw [e1] at hrg
      go_wp2
      go_end0
      exact ⟨rfl, hrg, hkw⟩

end Go.Proofs.Ytiaklgmmiadfoaa
