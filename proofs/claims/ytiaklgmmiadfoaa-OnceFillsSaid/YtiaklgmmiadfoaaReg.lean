/- The program's register: contracts. -/
import Derived.Test.YtiaklgmmiadfoaaWord
import Derived.Test.YtiaklgmmiadfoaaList
import Derived.Maps.OwnOps
import Derived.Deep.RegionHeld3
import Derived.StringKeys
import Derived.StillTailTactics
namespace Go.Proofs.Ytiaklgmmiadfoaa
open Go.RowKit Go.Maps Go.WideMaps

theorem lawS : Keyed Try.prog 9 := string_keyed Try.underlying9
theorem zeroI (w : World) : (zeroValue 3).run Try.prog w = .ok (.int .i64 0) w := by kernel_rfl

/-- A register in memory. -/
structure RegAt (w : World) (rb mb : Nat) (most : Int) (L : List Ent) : Prop where
  blk : w.heap[rb]? = some (.cells #[.map (some mb), .int .i64 most] 49 (0, 0))
  map : ∃ D, w.ownsMap Try.prog 9 (plainElem Try.prog 3) mb L.length D ∧ Sim D L
  most1 : 1 ≤ most
  most2 : most ≤ 256
  len : (L.length : Int) ≤ most
theorem RegAt.ne {w : World} {rb mb : Nat} {most : Int} {L : List Ent} (h : RegAt w rb mb most L) : rb ≠ mb := by
  intro e
  obtain ⟨D, ⟨es, clock, hb, _⟩, _⟩ := h.map
  rw [← e, h.blk] at hb
  cases hb
theorem RegAt.kept {S : List Nat} {w w' : World} {rb mb : Nat} {most : Int} {L : List Ent} (h : RegAt w rb mb most L) (k : Kept S w w') (h1 : rb ∉ S) (h2 : mb ∉ S) : RegAt w' rb mb most L := by
  obtain ⟨D, ho, hs⟩ := h.map
  exact ⟨k.at h.blk h1, ⟨D, k.ownsMap ho h2, hs⟩, h.most1, h.most2, h.len⟩

/-- Where there is one register: its fields. -/
theorem RegAt.c0 {w : World} {rb mb : Nat} {most : Int} {L : List Ent} (h : RegAt w rb mb most L) : w.cell? ⟨rb, 0, none⟩ = some (.map (some mb)) := by rw [cell_at h.blk]; rfl
theorem RegAt.c1 {w : World} {rb mb : Nat} {most : Int} {L : List Ent} (h : RegAt w rb mb most L) : w.cell? ⟨rb, 1, none⟩ = some (.int .i64 most) := by rw [cell_at h.blk]; rfl

set_option maxHeartbeats 400000 in
theorem ready_reg {w : World} {rb mb : Nat} {most : Int} {L : List Ent} (h : RegAt w rb mb most L) :
    Calls Try.prog 24 #[.pointer (some ⟨rb, 0, none⟩)] w fun e w' => e = .returned (.bool true) ∧ w = w' := by
  have c0 := h.c0
  have hn : ∀ (w : World) (r : Option Nat), (binOp .neq 47 (.map r) (.map none)).run Try.prog w = .ok (.bool (!r.isNone)) w := fun w r => run_neq_map_nil w _ _ _ r Try.underlying47
  go_enter Try.func24, Try.ntmps24
  go_wp2
  go_ret
  exact ⟨rfl, rfl⟩

set_option maxHeartbeats 400000 in
theorem len_reg {w : World} {rb mb : Nat} {most : Int} {L : List Ent} (h : RegAt w rb mb most L) :
    Calls Try.prog 19 #[.pointer (some ⟨rb, 0, none⟩)] w fun e w' => e = .returned (.int .i64 L.length) ∧ w = w' := by
  have c0 := h.c0
  obtain ⟨D, ho, hs⟩ := h.map
  have hz := hs.size
  go_enter Try.func19, Try.ntmps19
  go_wp2_with (first
    | (go_at_call 24; refine (ready_reg h).mono ?_; rintro e w' ⟨rfl, rfl⟩)
    | (at_len; refine wpList_len_own _ rfl _ _ rfl 9 3 Try.underlying47 _ _ _ D rfl ho ?_))
  go_ret
  exact ⟨ret_int (by omega), rfl⟩

/-- What stands at a key; 0 if nothing does. -/
def look0 (L : List Ent) (k : List UInt8) : Int := (look L k).getD 0

theorem RegAt.lookup {w : World} {rb mb : Nat} {most : Int} {L : List Ent} (h : RegAt w rb mb most L) (s : ByteArray) (hs : s.size ≤ maxLen) :
    (Instr.lookup 47 (.map (some mb)) (.string s) false).run Try.prog w = .ok (.int .i64 (look0 L s.data.toList)) w := by
  obtain ⟨D, ho, hD⟩ := h.map
  obtain ⟨c, hr, hat, _⟩ := ho.lookup_int lawS Try.underlying47 Try.underlying3 (zeroI w) (keyOf_string_mk Try.underlying9 hs)
  have : c = look0 L s.data.toList := by
    unfold look0
    cases hl : look L s.data.toList with
    | none => rw [hD.at_none hl] at hat; simp at hat; simp [hat]
    | some v => rw [hD.at_some hl] at hat; simp at hat; simp [hat]
  rw [← this]; exact hr

def seenB (L : List Ent) (k : List UInt8) (now : Int) : Bool := decide (lim now < look0 L k)

set_option maxHeartbeats 400000 in
theorem seen_reg {w : World} {rb mb : Nat} {most : Int} {L : List Ent} (h : RegAt w rb mb most L) (s : ByteArray) (hs : s.size ≤ maxLen) (now : Int) :
    Calls Try.prog 15 #[.pointer (some ⟨rb, 0, none⟩), .string s, .int .i64 now] w fun e w' => e = .returned (.bool (seenB L s.data.toList now)) ∧ ∃ n, w' = w.drewN n := by
  have c0 := h.c0
  have hk : ∀ n, RegAt (w.drewN n) rb mb most L := fun n => h.kept ((Kept.refl [] w).drewN n) (by simp) (by simp)
  have hl : ∀ n, (Instr.lookup 47 (.map (some mb)) (.string s) false).run Try.prog (w.drewN n) = .ok (.int .i64 (look0 L s.data.toList)) (w.drewN n) := fun n => (hk n).lookup s hs
  go_enter Try.func15, Try.ntmps15
  go_wp2_with fail
  go_quiet ((first
    | (go_at_call 24; exact Calls.quiet_of_same ((ready_reg (hk _)).mono fun _ _ h => ⟨h.1, h.2.symm⟩))
    | (go_at_call 22; exact Calls.quiet_of_same ((add_any _ _ _).mono fun _ _ h => ⟨h.1, h.2.symm⟩))))
  go_wp2_with fail
  go_ret
  refine ⟨ret_bool ?_, _, rfl⟩
  rw [add_zero]; rfl

set_option maxHeartbeats 400000 in
theorem new_no (most : Int) (h : most < 1 ∨ 256 < most) (w : World) :
    Calls Try.prog 11 #[.int .i64 most] w fun e w' => e = .returned (.tuple #[.pointer none, .int .i64 2]) ∧ w = w' := by
  rcases h with h | h
  · go_enter Try.func11, Try.ntmps11
    go_wp2
    go_ret2
    exact ⟨rfl, rfl⟩
  · have h' : ¬ most < 1 := by omega
    go_enter Try.func11, Try.ntmps11
    go_wp2
    go_ret2
    exact ⟨rfl, rfl⟩

set_option maxHeartbeats 400000 in
theorem new_yes (most : Int) (h1 : 1 ≤ most) (h2 : most ≤ 256) (w : World) :
    Calls Try.prog 11 #[.int .i64 most] w fun e w' => e = .returned (.tuple #[.pointer (some ⟨w.heap.size + 1, 0, none⟩), .int .i64 0]) ∧ RegAt w' (w.heap.size + 1) w.heap.size most [] ∧ Kept [] w w' ∧ w'.heap.size = w.heap.size + 2 := by
  have hmm := @run_makeMap Try.prog
  go_enter Try.func11, Try.ntmps11
  go_wp2
  go_ret2
  refine ⟨rfl, ⟨?_, ⟨.map [], ?_, Sim.empty⟩, h1, h2, by simp; omega⟩, ((Kept.refl [] w).alloc _).alloc _, by simp⟩
  · have := heap_alloc_new (w.alloc (.map #[] 0)) (.cells #[.map (some w.heap.size), .int .i64 most] 49 (0, 0))
    simpa using this
  · exact (World.ownsMap_made _ _ _ _).alloc _

theorem Sim.live {D : DataW Unit} {L : List Ent} {n : Int} {left : Lit → Bool} (h : Sim D (strk L left n)) (hl : ∀ k, left k = false) : Sim D (live L n) := by rw [strk_end hl] at h; exact h

set_option maxHeartbeats 1000000 in
set_option maxRecDepth 100000 in
theorem purge_reg {w : World} {rb mb : Nat} {most : Int} {L : List Ent} (h : RegAt w rb mb most L) (now : Int) :
    Calls Try.prog 17 #[.pointer (some ⟨rb, 0, none⟩), .int .i64 now] w fun e w' => e = .returned (.int .i64 ((L.length : Int) - (live L (lim now)).length)) ∧ RegAt w' rb mb most (live L (lim now)) ∧ Kept [mb] w w' := by
  have c0 := h.c0
  have hne := h.ne
  have hmost := h.most2
  have hlen := h.len
  obtain ⟨D0, ho, hs⟩ := h.map
  have hu := hs.uniq
  have hlt := lt_of_heap h.blk
  go_enter Try.func17, Try.ntmps17
  go_wp2_with (first
    | (go_at_call 24; refine (ready_reg h).mono ?_; rintro e w' ⟨rfl, rfl⟩)
    | (at_range; refine wpList_range_own _ rfl _ 47 rfl 9 3 lawS Try.underlying47 _ mb _ D0 rfl ho ?_; intro w0 hrg0 hg0 hs0))
  go_frame
  go_loopw [5] (fun n wr => ∃ (left : Lit → Bool) (cnt : Nat) (D : DataW Unit), wr.ranges Try.prog 9 (plainElem Try.prog 3) mb w.heap.size L.length D left cnt ∧ Sim D (strk L left (lim now)) ∧ n = .int .i64 ((L.length : Int) - (strk L left (lim now)).length) ∧ Kept [mb] w wr)
    (fun _ wr => wr.rangeLeft mb w.heap.size)
  case atStart => exact ⟨_, _, D0, hrg0, by rw [strk_start hs]; exact hs, by rw [strk_start hs]; simp, (Kept.of_grown hg0).mono (by simp)⟩
  case round =>
    obtain ⟨left, cnt, D, hrg, hsim, rfl, hkw⟩ := hrel
    have hc0 : wr.cell? ⟨rb, 0, none⟩ = some (.map (some mb)) := by rw [hkw.cell hlt (by simpa using hne)]; exact c0
    go_wp2_with (first
      | (at_next; refine wpList_next_ranges_si _ rfl _ rfl 9 3 .i64 lawS Try.underlying9 Try.underlying3 mb w.heap.size _ _ _ _ rfl hrg ?_ ?_))
    · intro _ hl0
      go_wp2
      go_ret
      have hlv := hsim.live hl0
      have hll : (live L (lim now)).length ≤ L.length := List.length_filter_le _ _
      rw [strk_end hl0]
      exact ⟨rfl, ⟨hkw.at h.blk (by simpa using hne), ⟨D, by rw [← hlv.size]; exact ownsMap_tight hrg.owns, hlv⟩, h.most1, h.most2, by omega⟩, hkw⟩
    · intro x c w1 cnt1 hwx hwc hlx hat hrg1 hlt1 hg1 hs1 hen
      have hkw1 : Kept [mb] w w1 := hkw.grown hg1 (fun i hi => by cases hi; exact .inr (Nat.le_refl _))
      have hc1 : w1.cell? ⟨rb, 0, none⟩ = some (.map (some mb)) := by rw [hkw1.cell hlt (by simpa using hne)]; exact c0
      have hll : (strk L left (lim now)).length ≤ L.length := List.length_filter_le _ _
      by_cases hc : c ≤ lim now
      · obtain ⟨hsim2, hlen2⟩ := strk_struck hu hsim hat hc
        have Hsim2 := hid hsim2
        have Hlen2 := hid hlen2
        clear hsim2 hlen2 hs1
        go_wp2_with (first
          | (go_at_call 22; refine (add0_any _ _).mono ?_; rintro e w' ⟨rfl, rfl⟩)
          | (at_delete; refine wpList_delete_ranges _ rfl _ _ 47 9 rfl 3 lawS Try.underlying47 _ mb w.heap.size _ _ _ _ rfl hrg1 _ _ rfl (WideMaps.keyOf_string_mk Try.underlying9 hwx) ?_; intro w2 cnt2 hrg2 hle hturn; go_frame))
        rw [strike_twice] at hrg2
        have hl2 := Hlen2.out
        go_roundw
        case rel => exact ⟨_, cnt2, _, hrg2, Hsim2.out, by congr 1; omega, hkw1.grown hturn.grown (fun i hi => by cases hi; exact .inl (by simp))⟩
        case measure => rw [hrg2.left_eq, hrg.left_eq]; omega
      · have hst := strk_stays hu hsim hat (by omega)
        have Hst := hid hst
        clear hst hs1
        go_wp2_with (first
          | (go_at_call 22; refine (add0_any _ _).mono ?_; rintro e w' ⟨rfl, rfl⟩))
        go_roundw
        case rel => exact ⟨_, cnt1, _, hrg1, by rw [Hst.out]; exact hsim, by rw [Hst.out], hkw1⟩
        case measure => rw [hrg1.left_eq, hrg.left_eq]; exact hlt1

/-! ### room, Use -/
def roomL (L : List Ent) (most now : Int) : List Ent := if (L.length : Int) < most then L else live L now
def roomB (L : List Ent) (most now : Int) : Bool := decide (((roomL L most now).length : Int) < most)
theorem live_le (L : List Ent) (n : Int) : (live L n).length ≤ L.length := List.length_filter_le _ _
theorem live_same {L : List Ent} {n : Int} (h : (live L n).length = L.length) : live L n = L := List.length_filter_eq_length_iff.1 h |> List.filter_eq_self.2

theorem RegAt.lenrun {w : World} {rb mb : Nat} {most : Int} {L : List Ent} (h : RegAt w rb mb most L) (ty : TypeId) :
    (Builtin.len_ #[47] ty #[.map (some mb)]).run Try.prog w = .ok (.int .i64 L.length) w := by
  obtain ⟨D, ho, hD⟩ := h.map
  rw [ho.len Try.underlying47 ty, hD.size]

set_option maxHeartbeats 400000 in
theorem room_reg {w : World} {rb mb : Nat} {most : Int} {L : List Ent} (h : RegAt w rb mb most L) (now : Int) :
    Calls Try.prog 25 #[.pointer (some ⟨rb, 0, none⟩), .int .i64 now] w fun e w' => e = .returned (.bool (roomB L most (lim now))) ∧ RegAt w' rb mb most (roomL L most (lim now)) ∧ Kept [mb] w w' := by
  have c0 := h.c0
  have c1 := h.c1
  have hk : ∀ n, RegAt (w.drewN n) rb mb most L := fun n => h.kept ((Kept.refl [] w).drewN n) (by simp) (by simp)
  have hd1 : RegAt w.drew rb mb most L := hk 1
  have hln : ∀ n ty, (Builtin.len_ #[47] ty #[.map (some mb)]).run Try.prog (w.drewN n) = .ok (.int .i64 L.length) (w.drewN n) := fun n ty => (hk n).lenrun ty
  have hln1 : ∀ ty, (Builtin.len_ #[47] ty #[.map (some mb)]).run Try.prog w.drew = .ok (.int .i64 L.length) w.drew := fun ty => hd1.lenrun ty
  have hlen := h.len
  by_cases hf : (L.length : Int) < most
  · have hd : decide ((L.length : Int) < most) = true := by simpa using hf
    have e1 : roomL L most (lim now) = L := by simp [roomL, hf]
    have e2 : roomB L most (lim now) = true := by simp [roomB, e1, hf]
    have E1 := hid e1
    have E2 := hid e2
    clear e1 e2
    go_enter Try.func25, Try.ntmps25
    go_wp2_with fail
    go_quiet (fail)
    go_wp2_with fail
    go_ret
    rw [E1.out, E2.out]
    exact ⟨rfl, hk _, (Kept.refl _ _).drewN _⟩
  · have hd : decide ((L.length : Int) < most) = false := by simpa using hf
    have e1 : roomL L most (lim now) = live L (lim now) := by simp [roomL, hf]
    have e2 : roomB L most (lim now) = decide (0 < (L.length : Int) - (live L (lim now)).length) := by
      rw [roomB, e1, Bool.eq_iff_iff, decide_eq_true_eq, decide_eq_true_eq]; omega
    have E1 := hid e1
    have E2 := hid e2
    clear e1 e2
    go_enter Try.func25, Try.ntmps25
    go_wp2_with fail
    go_still_tail 13, (by kernel_rfl)
    change wpList _ _ _ _ _ w.drew
    go_wp2_with (go_at_call 17; refine (purge_reg hd1 _).mono ?_; rintro e w1 ⟨rfl, hr1, hk1⟩)
    go_ret
    rw [E1.out, E2.out]
    exact ⟨ret_bool (by rw [Bool.eq_iff_iff, decide_eq_true_eq, decide_eq_true_eq]; omega), hr1, ((Kept.refl [mb] w).drew).step hk1 (by simp)⟩

/-! ### Use -/
def setL (L : List Ent) (k : List UInt8) (u : Int) : List Ent := L.map fun p => if p.1 = k then (k, u) else p
/-- What Use does to the entries, and what it returns. -/
def useL (L : List Ent) (most : Int) (k : List UInt8) (u n : Int) : Int × List Ent :=
  if wordB k = false then (5, L) else if u ≤ n then (13, L) else
  match look L k with
  | some o => if n < o then (18, L) else (0, setL L k u)
  | none => if roomB L most n then (0, roomL L most n ++ [(k, u)]) else (3, roomL L most n)

theorem setL_uniq {L : List Ent} (h : Uniq L) (k : List UInt8) (u : Int) : Uniq (setL L k u) := by
  unfold setL Uniq
  rw [List.pairwise_map]
  refine h.imp (fun {a b} hab => ?_)
  split <;> split <;> rename_i e1 e2
  · exact absurd (e1.trans e2.symm) hab
  · exact fun e => e2 e.symm
  · exact fun e => e1 e
  · exact hab
theorem setL_mem {L : List Ent} {k : List UInt8} {u o : Int} (hl : look L k = some o) (p : Ent) : p ∈ setL L k u ↔ p = (k, u) ∨ (p ∈ L ∧ p.1 ≠ k) := by
  unfold setL
  rw [List.mem_map]
  constructor
  · rintro ⟨q, hq, rfl⟩
    by_cases e : q.1 = k
    · rw [if_pos e]; exact .inl rfl
    · rw [if_neg e]; exact .inr ⟨hq, e⟩
  · rintro (rfl | ⟨hp, hne⟩)
    · exact ⟨_, look_some hl, by rw [if_pos rfl]⟩
    · exact ⟨p, hp, by rw [if_neg hne]⟩
theorem setL_len (L : List Ent) (k : List UInt8) (u : Int) : (setL L k u).length = L.length := by simp [setL]
theorem look_live {L : List Ent} {k : List UInt8} (h : look L k = none) (n : Int) : look (live L n) k = none := by
  unfold look at *
  rw [Option.map_eq_none_iff, List.find?_eq_none] at *
  exact fun p hp => h p (List.mem_filter.1 hp).1
theorem look_room {L : List Ent} {k : List UInt8} (h : look L k = none) (most n : Int) : look (roomL L most n) k = none := by
  unfold roomL; split
  · exact h
  · exact look_live h n
theorem roomL_uniq {L : List Ent} (h : Uniq L) (most n : Int) : Uniq (roomL L most n) := by
  unfold roomL; split
  · exact h
  · exact h.filter _
theorem app_uniq {L : List Ent} (h : Uniq L) {k : List UInt8} (hl : look L k = none) (u : Int) : Uniq (L ++ [(k, u)]) := by
  unfold Uniq
  rw [List.pairwise_append]
  exact ⟨h, by simp, fun a ha b hb => by simp at hb; subst hb; exact look_none hl a ha⟩
theorem app_mem {L : List Ent} {k : List UInt8} (hl : look L k = none) (u : Int) (p : Ent) : p ∈ L ++ [(k, u)] ↔ p = (k, u) ∨ (p ∈ L ∧ p.1 ≠ k) := by
  rw [List.mem_append, List.mem_singleton]
  constructor
  · rintro (h | h)
    · exact .inr ⟨h, look_none hl p h⟩
    · exact .inl h
  · rintro (h | ⟨h, _⟩)
    · exact .inr h
    · exact .inl h

theorem c_of {D : DataW Unit} {L : List Ent} (h : Sim D L) {k : List UInt8} {c : Int} (hat : D.atKey (.string k) (.lit (.int .i64 0)) = .lit (.int .i64 c)) : c = look0 L k := by
  unfold look0
  cases hl : look L k with
  | none => rw [h.at_none hl] at hat; simp at hat; simp [hat]
  | some v => rw [h.at_some hl] at hat; simp at hat; simp [hat]

set_option maxHeartbeats 2000000 in
theorem use_reg {w : World} {rb mb : Nat} {most : Int} {L : List Ent} (h : RegAt w rb mb most L) (s : ByteArray) (hs : s.size ≤ maxLen) (u n : Int) :
    Calls Try.prog 13 #[.pointer (some ⟨rb, 0, none⟩), .string s, .int .i64 u, .int .i64 n] w fun e w' => e = .returned (.int .i64 (useL L most s.data.toList (lim u) (lim n)).1) ∧ RegAt w' rb mb most (useL L most s.data.toList (lim u) (lim n)).2 ∧ Kept [mb] w w' := by
  have c0 := h.c0
  obtain ⟨D, ho, hD⟩ := h.map
  have hu := hD.uniq
  have hwf : (Lit.int .i64 (lim u)).wf = true := by have := lim_bd u; exact WalkArith.wf_i64 (by omega)
  have hm2 := h.most2
  have hlen := h.len
  have hroom : L.length < maxLen := by unfold maxLen; omega
  cases hw : wordB s.data.toList
  · have E := hid (show useL L most s.data.toList (lim u) (lim n) = (5, L) by simp [useL, hw])
    have hC := hid (show ∀ c : Int, D.atKey (.string s.data.toList) (.lit (.int .i64 0)) = .lit (.int .i64 c) → True from fun _ _ => trivial)
    go_enter Try.func13, Try.ntmps13
    go_wp2_with (first
      | (go_at_call 24; refine (ready_reg h).mono ?_; rintro e w' ⟨rfl, rfl⟩)
      | (go_at_call 22; refine (add0_any _ _).mono ?_; rintro e w' ⟨rfl, rfl⟩)
      | (go_at_call 23; refine (word_any _ _ hs).mono ?_; rintro e w' ⟨rfl, rfl⟩)
      | (at_lookup; refine wpList_lookup_own_ok_int _ rfl _ _ 47 rfl 9 3 .i64 lawS Try.underlying47 Try.underlying3 (zeroI _) mb _ D rfl ho _ _ rfl (WideMaps.keyOf_string_mk Try.underlying9 hs) ?_; intro c hat hwc; have hcc := hC.out c hat; clear hat)
      | (go_at_call 25; refine (room_reg h _).mono ?_; rintro e w1 ⟨rfl, hr1, hk1⟩; rw [lim_lim] at hr1; rw [lim_lim]; have c01 := hr1.c0; obtain ⟨D1, ho1, hD1⟩ := hr1.map)
      | (at_mapUpdate; refine wpList_mapUpdate_own _ rfl _ _ _ 47 rfl 9 3 lawS Try.underlying47 _ mb _ _ rfl ho hroom _ _ _ rfl rfl (WideMaps.keyOf_string_mk Try.underlying9 hs) _ [] (plainElem_int Try.underlying3 hwf) ?_; intro w2 hown2 hgrow2))
    go_ret
    rw [E.out]
    exact ⟨rfl, h, Kept.refl _ _⟩
  by_cases hun : lim u ≤ lim n
  · have E := hid (show useL L most s.data.toList (lim u) (lim n) = (13, L) by simp [useL, hw, hun])
    have hC := hid (show ∀ c : Int, D.atKey (.string s.data.toList) (.lit (.int .i64 0)) = .lit (.int .i64 c) → True from fun _ _ => trivial)
    go_enter Try.func13, Try.ntmps13
    go_wp2_with (first
      | (go_at_call 24; refine (ready_reg h).mono ?_; rintro e w' ⟨rfl, rfl⟩)
      | (go_at_call 22; refine (add0_any _ _).mono ?_; rintro e w' ⟨rfl, rfl⟩)
      | (go_at_call 23; refine (word_any _ _ hs).mono ?_; rintro e w' ⟨rfl, rfl⟩)
      | (at_lookup; refine wpList_lookup_own_ok_int _ rfl _ _ 47 rfl 9 3 .i64 lawS Try.underlying47 Try.underlying3 (zeroI _) mb _ D rfl ho _ _ rfl (WideMaps.keyOf_string_mk Try.underlying9 hs) ?_; intro c hat hwc; have hcc := hC.out c hat; clear hat)
      | (go_at_call 25; refine (room_reg h _).mono ?_; rintro e w1 ⟨rfl, hr1, hk1⟩; rw [lim_lim] at hr1; rw [lim_lim]; have c01 := hr1.c0; obtain ⟨D1, ho1, hD1⟩ := hr1.map)
      | (at_mapUpdate; refine wpList_mapUpdate_own _ rfl _ _ _ 47 rfl 9 3 lawS Try.underlying47 _ mb _ _ rfl ho hroom _ _ _ rfl rfl (WideMaps.keyOf_string_mk Try.underlying9 hs) _ [] (plainElem_int Try.underlying3 hwf) ?_; intro w2 hown2 hgrow2))
    go_ret
    rw [E.out]
    exact ⟨rfl, h, Kept.refl _ _⟩
  cases hl : look L s.data.toList with
  | some o =>
    have hhas : Maps.has D (.string s.data.toList) = true := by rw [hD.has, hl]; rfl
    by_cases hno : lim n < o
    · have E := hid (show useL L most s.data.toList (lim u) (lim n) = (18, L) by simp [useL, hw, hun, hl, hno])
      have hC := hid (show ∀ c : Int, D.atKey (.string s.data.toList) (.lit (.int .i64 0)) = .lit (.int .i64 c) → lim n < c from fun c hat => by rw [c_of hD hat, look0, hl]; exact hno)
      clear hl
      go_enter Try.func13, Try.ntmps13
      go_wp2_with (first
        | (go_at_call 24; refine (ready_reg h).mono ?_; rintro e w' ⟨rfl, rfl⟩)
        | (go_at_call 22; refine (add0_any _ _).mono ?_; rintro e w' ⟨rfl, rfl⟩)
        | (go_at_call 23; refine (word_any _ _ hs).mono ?_; rintro e w' ⟨rfl, rfl⟩)
        | (at_lookup; refine wpList_lookup_own_ok_int _ rfl _ _ 47 rfl 9 3 .i64 lawS Try.underlying47 Try.underlying3 (zeroI _) mb _ D rfl ho _ _ rfl (WideMaps.keyOf_string_mk Try.underlying9 hs) ?_; intro c hat hwc; have hcc := hC.out c hat; clear hat)
        | (go_at_call 25; refine (room_reg h _).mono ?_; rintro e w1 ⟨rfl, hr1, hk1⟩; rw [lim_lim] at hr1; rw [lim_lim]; have c01 := hr1.c0; obtain ⟨D1, ho1, hD1⟩ := hr1.map)
        | (at_mapUpdate; refine wpList_mapUpdate_own _ rfl _ _ _ 47 rfl 9 3 lawS Try.underlying47 _ mb _ _ rfl ho hroom _ _ _ rfl rfl (WideMaps.keyOf_string_mk Try.underlying9 hs) _ [] (plainElem_int Try.underlying3 hwf) ?_; intro w2 hown2 hgrow2))
      go_ret
      rw [E.out]
      exact ⟨rfl, h, Kept.refl _ _⟩
    · have E := hid (show useL L most s.data.toList (lim u) (lim n) = (0, setL L s.data.toList (lim u)) by simp [useL, hw, hun, hl, hno])
      have hC := hid (show ∀ c : Int, D.atKey (.string s.data.toList) (.lit (.int .i64 0)) = .lit (.int .i64 c) → ¬ lim n < c from fun c hat => by rw [c_of hD hat, look0, hl]; exact hno)
      have HL := hid hl
      clear hl
      go_enter Try.func13, Try.ntmps13
      go_wp2_with (first
        | (go_at_call 24; refine (ready_reg h).mono ?_; rintro e w' ⟨rfl, rfl⟩)
        | (go_at_call 22; refine (add0_any _ _).mono ?_; rintro e w' ⟨rfl, rfl⟩)
        | (go_at_call 23; refine (word_any _ _ hs).mono ?_; rintro e w' ⟨rfl, rfl⟩)
        | (at_lookup; refine wpList_lookup_own_ok_int _ rfl _ _ 47 rfl 9 3 .i64 lawS Try.underlying47 Try.underlying3 (zeroI _) mb _ D rfl ho _ _ rfl (WideMaps.keyOf_string_mk Try.underlying9 hs) ?_; intro c hat hwc; have hcc := hC.out c hat; clear hat)
        | (go_at_call 25; refine (room_reg h _).mono ?_; rintro e w1 ⟨rfl, hr1, hk1⟩; rw [lim_lim] at hr1; rw [lim_lim]; have c01 := hr1.c0; obtain ⟨D1, ho1, hD1⟩ := hr1.map)
        | (at_mapUpdate; refine wpList_mapUpdate_own _ rfl _ _ _ 47 rfl 9 3 lawS Try.underlying47 _ mb _ _ rfl ho hroom _ _ _ rfl rfl (WideMaps.keyOf_string_mk Try.underlying9 hs) _ [] (plainElem_int Try.underlying3 hwf) ?_; intro w2 hown2 hgrow2))
      go_ret
      rw [E.out]
      have hS := hD.put (setL_uniq hu _ (lim u)) (setL_mem HL.out)
      have hk2 : Kept [mb] w w2 := (Kept.refl _ _).grown hgrow2 (fun i hi => by cases hi; exact .inl (by simp))
      exact ⟨rfl, ⟨hk2.at h.blk (by simpa using h.ne), ⟨_, by rw [← hS.size]; exact ownsMap_tight hown2, hS⟩, h.most1, h.most2, by rw [setL_len]; exact h.len⟩, hk2⟩
  | none =>
    have hhas : Maps.has D (.string s.data.toList) = false := by rw [hD.has, hl]; rfl
    have hC := hid (show ∀ c : Int, D.atKey (.string s.data.toList) (.lit (.int .i64 0)) = .lit (.int .i64 c) → True from fun _ _ => trivial)
    cases hr : roomB L most (lim n)
    · have E := hid (show useL L most s.data.toList (lim u) (lim n) = (3, roomL L most (lim n)) by simp [useL, hw, hun, hl, hr])
      clear hl
      go_enter Try.func13, Try.ntmps13
      go_wp2_with (first
        | (go_at_call 24; refine (ready_reg h).mono ?_; rintro e w' ⟨rfl, rfl⟩)
        | (go_at_call 22; refine (add0_any _ _).mono ?_; rintro e w' ⟨rfl, rfl⟩)
        | (go_at_call 23; refine (word_any _ _ hs).mono ?_; rintro e w' ⟨rfl, rfl⟩)
        | (at_lookup; refine wpList_lookup_own_ok_int _ rfl _ _ 47 rfl 9 3 .i64 lawS Try.underlying47 Try.underlying3 (zeroI _) mb _ D rfl ho _ _ rfl (WideMaps.keyOf_string_mk Try.underlying9 hs) ?_; intro c hat hwc; have hcc := hC.out c hat; clear hat)
        | (go_at_call 25; refine (room_reg h _).mono ?_; rintro e w1 ⟨rfl, hr1, hk1⟩; rw [lim_lim] at hr1; rw [lim_lim]; have c01 := hr1.c0; obtain ⟨D1, ho1, hD1⟩ := hr1.map)
        | (at_mapUpdate; refine wpList_mapUpdate_own _ rfl _ _ _ 47 rfl 9 3 lawS Try.underlying47 _ mb _ _ rfl ho hroom _ _ _ rfl rfl (WideMaps.keyOf_string_mk Try.underlying9 hs) _ [] (plainElem_int Try.underlying3 hwf) ?_; intro w2 hown2 hgrow2))
      go_ret
      rw [E.out]
      exact ⟨rfl, hr1, hk1⟩
    · have E := hid (show useL L most s.data.toList (lim u) (lim n) = (0, roomL L most (lim n) ++ [(s.data.toList, lim u)]) by simp [useL, hw, hun, hl, hr])
      have HL := hid (look_room hl most (lim n))
      have hrm : ((roomL L most (lim n)).length : Int) < most := by simpa [roomB] using hr
      have hroom1 : (roomL L most (lim n)).length < maxLen := by unfold maxLen; omega
      clear hl
      go_enter Try.func13, Try.ntmps13
      go_wp2_with (first
        | (go_at_call 24; refine (ready_reg h).mono ?_; rintro e w' ⟨rfl, rfl⟩)
        | (go_at_call 22; refine (add0_any _ _).mono ?_; rintro e w' ⟨rfl, rfl⟩)
        | (go_at_call 23; refine (word_any _ _ hs).mono ?_; rintro e w' ⟨rfl, rfl⟩)
        | (at_lookup; refine wpList_lookup_own_ok_int _ rfl _ _ 47 rfl 9 3 .i64 lawS Try.underlying47 Try.underlying3 (zeroI _) mb _ D rfl ho _ _ rfl (WideMaps.keyOf_string_mk Try.underlying9 hs) ?_; intro c hat hwc; have hcc := hC.out c hat; clear hat)
        | (go_at_call 25; refine (room_reg h _).mono ?_; rintro e w1 ⟨rfl, hr1, hk1⟩; rw [lim_lim] at hr1; rw [lim_lim]; have c01 := hr1.c0; obtain ⟨D1, ho1, hD1⟩ := hr1.map)
        | (at_mapUpdate; refine wpList_mapUpdate_own _ rfl _ _ _ 47 rfl 9 3 lawS Try.underlying47 _ mb _ _ rfl ho1 hroom1 _ _ _ rfl rfl (WideMaps.keyOf_string_mk Try.underlying9 hs) _ [] (plainElem_int Try.underlying3 hwf) ?_; intro w2 hown2 hgrow2))
      go_ret
      rw [E.out]
      have hS := hD1.put (app_uniq (roomL_uniq hu _ _) HL.out (lim u)) (app_mem HL.out (lim u))
      have hk2 : Kept [mb] w1 w2 := (Kept.refl _ _).grown hgrow2 (fun i hi => by cases hi; exact .inl (by simp))
      exact ⟨rfl, ⟨hk2.at hr1.blk (by simpa using h.ne), ⟨_, by rw [← hS.size]; exact ownsMap_tight hown2, hS⟩, h.most1, h.most2, by simp; omega⟩, hk1.step hk2 (by simp)⟩

end Go.Proofs.Ytiaklgmmiadfoaa
