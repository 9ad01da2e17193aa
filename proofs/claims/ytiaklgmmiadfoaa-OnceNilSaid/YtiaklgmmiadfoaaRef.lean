/- The reference's register: contracts. -/
import Derived.Test.YtiaklgmmiadfoaaReg
import Derived.Deep.AppendLies
namespace Go.Proofs.Ytiaklgmmiadfoaa
open Go.RowKit Go.Maps Go.WideMaps

/-- The blocks of a slice. -/
def fp : Option Addr → List Nat
  | some a => [a.block]
  | none => []
def strV (l : List UInt8) : Value := .string ⟨l.toArray⟩
def itemV (p : Ent) : List Value := [strV p.1, .int .i64 p.2]
def itemsV (L : List Ent) : List Value := L.flatMap itemV

/-- A reference register in memory. -/
structure RefAt (w : World) (sb : Nat) (a : Option Addr) (cap : Nat) (most : Int) (L : List Ent) : Prop where
  blk : w.heap[sb]? = some (.cells #[.int .i64 most, .slice a L.length cap] 54 (0, 0))
  row : w.ownsRow 0 59 2 (.slice a L.length cap) L.length (itemsV L)
  uniq : Uniq L
  most1 : 1 ≤ most
  most2 : most ≤ 256
  len : (L.length : Int) ≤ most

theorem itemsV_len (L : List Ent) : (itemsV L).length = L.length * 2 := by
  induction L with
  | nil => rfl
  | cons p r ih => simp [itemsV, itemV] at *; omega
theorem itemsV_get (L : List Ent) (i : Nat) (h : i < L.length) : (itemsV L)[i * 2]? = some (strV L[i].1) ∧ (itemsV L)[i * 2 + 1]? = some (.int .i64 L[i].2) := by
  induction L generalizing i with
  | nil => simp at h
  | cons p r ih =>
    cases i with
    | zero => exact ⟨rfl, rfl⟩
    | succ i =>
      have h' := ih i (by simpa using h)
      have e : (i + 1) * 2 = i * 2 + 1 + 1 := by omega
      rw [e]
      exact h'
/-- An owned row that is not empty: where it lies. -/
theorem row_some {w : World} {e : TypeId} {sz : Nat} {a : Option Addr} {n cap : Nat} {xs : List Value} (h : w.ownsRow 0 e sz (.slice a n cap) n xs) (hn : 0 < n) :
    ∃ g cur, a = some ⟨g, 0, none⟩ ∧ w.heap[g]? = some (.cells cur e (0, 0)) ∧ n ≤ cap ∧ cap ≤ maxLen ∧ cur.size = cap * sz ∧ cur.toList.take (n * sz) = xs := by
  rcases h.2 with ⟨h1, h2⟩ | ⟨g, cap', cur, hv, _, hg, h1, h2, h3, h4⟩
  · omega
  · injection hv with e1 e2 e3
    subst e3
    exact ⟨g, cur, e1, hg, h1, h2, h3, h4⟩
theorem row_cell {w : World} {e : TypeId} {sz : Nat} {g n cap : Nat} {xs : List Value} (h : w.ownsRow 0 e sz (.slice (some ⟨g, 0, none⟩) n cap) n xs) {j : Nat} {u : Value} (hu : xs[j]? = some u) : w.cell? ⟨g, j, none⟩ = some u := by
  have := h.cells (g := g) rfl j u hu
  rwa [show (⟨g, 0, none⟩ : Addr).add j = ⟨g, j, none⟩ from by unfold Addr.add; split <;> simp_all] at this
theorem RefAt.c0 {w : World} {sb : Nat} {a : Option Addr} {cap : Nat} {most : Int} {L : List Ent} (h : RefAt w sb a cap most L) : w.cell? ⟨sb, 0, none⟩ = some (.int .i64 most) := by rw [cell_at h.blk]; rfl
theorem RefAt.c1 {w : World} {sb : Nat} {a : Option Addr} {cap : Nat} {most : Int} {L : List Ent} (h : RefAt w sb a cap most L) : w.cell? ⟨sb, 1, none⟩ = some (.slice a L.length cap) := by rw [cell_at h.blk]; rfl
theorem RefAt.ne {w : World} {sb : Nat} {a : Option Addr} {cap : Nat} {most : Int} {L : List Ent} (h : RefAt w sb a cap most L) : sb ∉ fp a := by
  rcases h.row.2 with ⟨h1, h2⟩ | ⟨g, cap', cur, hv, _, hg, _⟩
  · injection h1 with e1; subst e1; simp [fp]
  · injection hv with e1; subst e1
    simp only [fp, List.mem_singleton]
    intro e
    rw [← e, h.blk] at hg
    injection hg with hg
    injection hg with _ hg
    exact absurd hg (by decide)
theorem RefAt.kept {S : List Nat} {w w' : World} {sb : Nat} {a : Option Addr} {cap : Nat} {most : Int} {L : List Ent} (h : RefAt w sb a cap most L) (k : Kept S w w') (h1 : sb ∉ S) (h2 : ∀ i ∈ fp a, i ∉ S) : RefAt w' sb a cap most L := by
  refine ⟨k.at h.blk h1, ⟨h.row.1, ?_⟩, h.uniq, h.most1, h.most2, h.len⟩
  rcases h.row.2 with hn | ⟨g, cap', cur, hv, hb, hg, rest⟩
  · exact .inl hn
  · injection hv with e1 e2 e3
    subst e1; subst e3
    exact .inr ⟨g, cap, cur, rfl, hb, k.at hg (h2 g (by simp [fp])), rest⟩
theorem RefAt.cells {w : World} {sb : Nat} {a : Option Addr} {cap : Nat} {most : Int} {L : List Ent} (h : RefAt w sb a cap most L) (hn : 0 < L.length) :
    ∃ g, a = some ⟨g, 0, none⟩ ∧ ∀ i (hi : i < L.length), w.cell? ⟨g, i * 2, none⟩ = some (strV L[i].1) ∧ w.cell? ⟨g, i * 2 + 1, none⟩ = some (.int .i64 L[i].2) := by
  obtain ⟨g, cur, rfl, _⟩ := row_some h.row hn
  exact ⟨g, rfl, fun i hi => ⟨row_cell h.row (itemsV_get L i hi).1, row_cell h.row (itemsV_get L i hi).2⟩⟩

/-- Where the key stands; -1 if nowhere. -/
def atL (L : List Ent) (k : List UInt8) : Int := match L.findIdx? (fun p => p.1 == k) with | some i => i | none => -1
def NotTo (L : List Ent) (k : List UInt8) (i : Nat) : Prop := ∀ j (_ : j < i) (hj : j < L.length), L[j].1 ≠ k

theorem NotTo.next {L : List Ent} {k : List UInt8} {i : Nat} (h : NotTo L k i) (hi : i < L.length) (hn : L[i].1 ≠ k) : NotTo L k (i + 1) := by
  intro j hj hjl
  by_cases e : j = i
  · subst e; exact hn
  · exact h j (by omega) hjl
theorem NotTo.all {L : List Ent} {k : List UInt8} {i : Nat} (h : NotTo L k i) (hi : L.length ≤ i) : ∀ p ∈ L, p.1 ≠ k := by
  intro p hp
  obtain ⟨j, hj, rfl⟩ := List.getElem_of_mem hp
  exact h j (by omega) hj
theorem atL_no {L : List Ent} {k : List UInt8} (h : ∀ p ∈ L, p.1 ≠ k) : atL L k = -1 := by
  unfold atL
  rw [List.findIdx?_eq_none_iff.2 (fun p hp => by simpa using h p hp)]
theorem atL_yes {L : List Ent} {k : List UInt8} {i : Nat} (hi : i < L.length) (h : NotTo L k i) (he : L[i].1 = k) : atL L k = i := by
  unfold atL
  have : L.findIdx? (fun p => p.1 == k) = some i := by
    rw [List.findIdx?_eq_some_iff_getElem]
    exact ⟨hi, by simpa using he, fun j hj => by simpa using h j hj (by omega)⟩
  rw [this]
theorem atL_look_none {L : List Ent} {k : List UInt8} (h : look L k = none) : atL L k = -1 := atL_no (look_none h)
theorem atL_look {L : List Ent} {k : List UInt8} {o : Int} (h : look L k = some o) : ∃ (i : Nat) (hi : i < L.length), atL L k = i ∧ L[i] = (k, o) ∧ NotTo L k i := by
  cases hf : L.findIdx? (fun p => p.1 == k) with
  | none =>
    rw [List.findIdx?_eq_none_iff] at hf
    have := hf _ (look_some h)
    simp at this
  | some i =>
    have hf' := hf
    rw [List.findIdx?_eq_some_iff_getElem] at hf
    obtain ⟨hi, h1, h2⟩ := hf
    refine ⟨i, hi, by unfold atL; rw [hf'], ?_, fun j hj hjl => by simpa using h2 j hj⟩
    have e : L.find? (fun p => p.1 == k) = some L[i] := by
      rw [List.find?_eq_some_iff_getElem]
      exact ⟨h1, i, hi, rfl, fun j hj => by simpa using h2 j hj⟩
    unfold look at h
    rw [e] at h
    simp at h h1
    exact Prod.ext h1 h

set_option maxHeartbeats 400000 in
theorem at_ref {w : World} {sb : Nat} {a : Option Addr} {cap : Nat} {most : Int} {L : List Ent} (h : RefAt w sb a cap most L) (s : ByteArray) :
    Calls Try.prog 28 #[.pointer (some ⟨sb, 0, none⟩), .string s] w fun e w' => e = .returned (.int .i64 (atL L s.data.toList)) ∧ w = w' := by
  have c1 := h.c1
  have hlen := h.len
  have hm2 := h.most2
  go_enter Try.func28, Try.ntmps28
  go_wp2
  go_loop [5] (fun i => ∃ k : Nat, k ≤ L.length ∧ i = .int .i64 k ∧ NotTo L s.data.toList k) (fun i => L.length - (intOf i).toNat)
  case atStart => exact ⟨0, Nat.zero_le _, rfl, fun j hj => by omega⟩
  case round =>
    obtain ⟨k, hk, rfl, ha⟩ := hrel
    by_cases hlt : k < L.length
    · obtain ⟨g, rfl, hc⟩ := h.cells (by omega)
      obtain ⟨hc0, _⟩ := hc k hlt
      clear hc
      unfold strV at hc0
      go_wp2
      · have he : (L[k].fst == s.toList) = true := by assumption
        go_ret
        exact ⟨ret_int (by rw [atL_yes hlt ha (by rw [ByteArray.toList_eq] at he; simpa using he)]), rfl⟩
      · have he : (L[k].fst == s.toList) = false := by assumption
        go_round
        case rel => exact ⟨k + 1, by omega, by go_num, ha.next hlt (by rw [ByteArray.toList_eq] at he; simpa using he)⟩
        case measure => simp [intOf]; omega
    · go_wp2
      go_ret
      exact ⟨ret_int (by rw [atL_no (ha.all (by omega))]), rfl⟩

set_option maxHeartbeats 400000 in
theorem len_ref {w : World} {sb : Nat} {a : Option Addr} {cap : Nat} {most : Int} {L : List Ent} (h : RefAt w sb a cap most L) :
    Calls Try.prog 20 #[.pointer (some ⟨sb, 0, none⟩)] w fun e w' => e = .returned (.int .i64 L.length) ∧ w = w' := by
  have c1 := h.c1
  go_enter Try.func20, Try.ntmps20
  go_wp2
  go_ret
  exact ⟨rfl, rfl⟩

set_option maxHeartbeats 400000 in
theorem seen_ref {w : World} {sb : Nat} {a : Option Addr} {cap : Nat} {most : Int} {L : List Ent} (h : RefAt w sb a cap most L) (s : ByteArray) (now : Int) :
    Calls Try.prog 16 #[.pointer (some ⟨sb, 0, none⟩), .string s, .int .i64 now] w fun e w' => e = .returned (.bool (seenB L s.data.toList now)) ∧ ∃ n, w' = w.drewN n := by
  have c1 := h.c1
  have hlen := h.len
  have hm2 := h.most2
  cases hl : look L s.data.toList with
  | none =>
    have e := atL_look_none hl
    have hb := hid (show seenB L s.data.toList now = false by simp [seenB, look0, hl]; exact (lim_bd now).1)
    clear hl
    have hd : decide ((0 : Int) ≤ -1) = false := rfl
    go_enter Try.func16, Try.ntmps16
    go_wp2_with (first | (go_at_call 28; refine (at_ref h s).mono ?_; rintro e w' ⟨rfl, rfl⟩))
    go_quiet (fail)
    go_wp2_with fail
    go_ret
    exact ⟨ret_bool hb.out.symm, _, rfl⟩
  | some o =>
    obtain ⟨i, hi, e, hp, _⟩ := atL_look hl
    obtain ⟨g, rfl, hc⟩ := h.cells (by omega)
    obtain ⟨_, hc1⟩ := hc i hi
    rw [hp] at hc1
    have hb := hid (show seenB L s.data.toList now = decide (lim now < o) by simp [seenB, look0, hl])
    clear hl hc hp
    have hd : decide ((0 : Int) ≤ i) = true := by simp
    have hb1 : (0 : Int) ≤ i := by omega
    have hb2 : (i : Int) < L.length := by omega
    go_enter Try.func16, Try.ntmps16
    go_wp2_with (first | (go_at_call 28; refine (at_ref h s).mono ?_; rintro e w' ⟨rfl, rfl⟩))
    go_quiet ((go_at_call 26; exact Calls.quiet_of_same ((limit_any _ _).mono fun _ _ h => ⟨h.1, h.2.symm⟩)))
    go_wp2_with fail
    go_ret
    exact ⟨ret_bool hb.out.symm, _, rfl⟩

theorem infoItem : (Try.prog.info? 59).map (fun i => (i.zero, i.size, i.bytes)) = some (some (.agg #[.string ⟨#[]⟩, .int .i64 0]), 2, 24) := by kernel_rfl

theorem itemsV_snoc (L : List Ent) (p : Ent) : itemsV (L ++ [p]) = itemsV L ++ [strV p.1, .int .i64 p.2] := by simp [itemsV, itemV]
theorem item_one (p : Ent) : ∀ u ∈ [strV p.1, Value.int .i64 p.2], u.oneCell' = true := by
  intro u hu
  simp at hu
  rcases hu with rfl | rfl <;> rfl
theorem live_take_snoc (L : List Ent) (n : Int) (k : Nat) (h : k < L.length) : live (L.take (k + 1)) n = if n < L[k].2 then live (L.take k) n ++ [L[k]] else live (L.take k) n := by
  rw [List.take_succ_eq_append_getElem h]
  unfold live
  rw [List.filter_append]
  by_cases hc : n < L[k].2 <;> simp [hc]
theorem live_take_le (L : List Ent) (n : Int) (k : Nat) : (live (L.take k) n).length ≤ L.length := Nat.le_trans (List.length_filter_le _ _) (by simp; omega)

/-- What has been kept so far: the slice that the loop has made. -/
structure Grows (w : World) (a : Option Addr) (cap : Nat) (L : List Ent) (w' : World) : Prop where
  row : w'.ownsRow 0 59 2 (.slice a L.length cap) L.length (itemsV L)
  kept : Kept [] w w'
  new : ∀ i ∈ fp a, w.heap.size ≤ i

theorem ownBlock_fp (a : Option Addr) (n cap : Nat) : (Value.slice a n cap).ownBlock.toList = fp a := by cases a <;> rfl
theorem ownBlock_mem {a : Option Addr} {n cap i : Nat} (h : (Value.slice a n cap).ownBlock = some i) : i ∈ fp a := by
  rw [← ownBlock_fp a n cap, h]; simp
theorem row_drewN {w : World} {b : Nat} {e : TypeId} {sz : Nat} {v : Value} {n : Nat} {xs : List Value} (h : w.ownsRow b e sz v n xs) (m : Nat) : (w.drewN m).ownsRow b e sz v n xs := h

set_option maxHeartbeats 2000000 in
set_option maxRecDepth 100000 in
theorem purge_ref {w : World} {sb : Nat} {a : Option Addr} {cap : Nat} {most : Int} {L : List Ent} (h : RefAt w sb a cap most L) (now : Int) :
    Calls Try.prog 18 #[.pointer (some ⟨sb, 0, none⟩), .int .i64 now] w fun e w' => e = .returned (.int .i64 ((L.length : Int) - (live L (lim now)).length)) ∧ ∃ a' cap', RefAt w' sb a' cap' most (live L (lim now)) ∧ Kept [sb] w w' ∧ (∀ i ∈ fp a', w.heap.size ≤ i) := by
  have c1 := h.c1
  have f1 := free_at h.blk 1
  have hlen := h.len
  have hm2 := h.most2
  have hsb := lt_of_heap h.blk
  obtain ⟨i0, hi, hz0, hz1, hz2⟩ := info_parts infoItem
  go_enter Try.func18, Try.ntmps18
  go_wp2
  go_loopw [5, 6] (fun l i wr => ∃ (k : Nat) (a' : Option Addr) (cap' : Nat), k ≤ L.length ∧ i = .int .i64 k ∧ l = .slice a' (live (L.take k) (lim now)).length cap' ∧ Grows w a' cap' (live (L.take k) (lim now)) wr) (fun _ i _ => L.length - (intOf i).toNat)
  case atStart => exact ⟨0, none, 0, Nat.zero_le _, rfl, rfl, World.ownsRow_nil _ _ _ _, Kept.refl _ _, by simp [fp]⟩
  case round =>
    obtain ⟨k, a', cap', hk, rfl, rfl, hg⟩ := hrel
    have hc1 : wr.cell? ⟨sb, 1, none⟩ = some (.slice a L.length cap) := by rw [hg.kept.cell hsb (by simp)]; exact c1
    by_cases hlt : k < L.length
    · obtain ⟨g, rfl, hc⟩ := h.cells (by omega)
      obtain ⟨hc0, hcc1⟩ := hc k hlt
      have hgl : g < w.heap.size := by
        obtain ⟨g', cur, e, hb, _⟩ := row_some h.row (by omega)
        injection e with e; injection e with e; subst e
        exact lt_of_heap hb
      have hd0 : wr.cell? ⟨g, k * 2, none⟩ = some (strV L[k].1) := by rw [hg.kept.cell hgl (by simp)]; exact hc0
      have hd1 : wr.cell? ⟨g, k * 2 + 1, none⟩ = some (.int .i64 L[k].2) := by rw [hg.kept.cell hgl (by simp)]; exact hcc1
      have hb1 : (0 : Int) ≤ k := by omega
      have hb2 : (k : Int) < L.length := by omega
      have hll := live_take_le L (lim now) k
      have Hsn := hid (live_take_snoc L (lim now) k hlt)
      clear hc hc0 hcc1
      unfold strV at hd0
      by_cases hv : lim now < L[k].2
      · have hv' : decide (lim now < L[k].2) = true := by simpa using hv
        go_wp2_with fail
        go_quiet ((go_at_call 26; exact Calls.quiet_of_same ((limit_any _ _).mono fun _ _ h => ⟨h.1, h.2.symm⟩)))
        go_wp2_with (first | (at_builtin; refine wpList_append_lies _ rfl _ _ _ rfl 0 59 i0 _ 2 24 Try.underlying52 hi hz0 hz1 hz2 rfl (by omega) _ _ _ rfl ((row_drewN hg.row _).alloc _) ⟨wr.heap.size, 0, none⟩ 1 1 [strV L[k].1, .int .i64 L[k].2] rfl rfl (cell_two_new _ _ _ _) (item_one L[k]) (by omega) (by unfold maxLen; omega) (by omega) (Nat.zero_le _) (wr.heap.size + 1) (by simp) ?_; intro g2 cap2 w1 hown hgrow hat hlt2))
        go_roundw
        case rel =>
          have e : live (L.take (k + 1)) (lim now) = live (L.take k) (lim now) ++ [L[k]] := by rw [Hsn.out, if_pos hv]
          refine ⟨k + 1, some ⟨g2, 0, none⟩, cap2, by omega, by go_num, by rw [e]; simp, ?_, ?_, ?_⟩
          · rw [e, itemsV_snoc]; simpa using hown
          · exact ((hg.kept.drewN _).alloc _).grown hgrow (fun i hi => .inr (hg.new i (ownBlock_mem hi)))
          · have hsz := hg.kept.size
            intro i hi
            simp only [fp, List.mem_singleton] at hi
            subst hi
            rcases hat with hat | hat
            · exact hg.new _ (ownBlock_mem hat)
            · omega
        case measure => simp [intOf]; omega
      · have hv' : decide (lim now < L[k].2) = false := by simpa using hv
        go_wp2_with fail
        go_quiet ((go_at_call 26; exact Calls.quiet_of_same ((limit_any _ _).mono fun _ _ h => ⟨h.1, h.2.symm⟩)))
        go_wp2_with fail
        go_roundw
        case rel =>
          have e : live (L.take (k + 1)) (lim now) = live (L.take k) (lim now) := by rw [Hsn.out, if_neg (by omega)]
          exact ⟨k + 1, a', cap', by omega, by go_num, by rw [e], by rw [e]; exact ⟨hg.row, hg.kept.drewN _, hg.new⟩⟩
        case measure => simp [intOf]; omega
    · have hll := live_le L (lim now)
      have e1 : L.take k = L := List.take_of_length_le (by omega)
      rw [e1] at hg ⊢
      have hf1 : wr.frozen? ⟨sb, 1, none⟩ = false := by rw [hg.kept.frozen hsb (by simp)]; exact f1
      go_wp2
      go_ret
      have hb := heap_setCell_same wr sb 1 _ _ (.slice a' (live L (lim now)).length cap') (hg.kept.at h.blk (by simp))
      have hne : ∀ i ∈ fp a', i ≠ sb := fun i hi e => by have := hg.new i hi; omega
      refine ⟨rfl, a', cap', ⟨by simpa using hb, ⟨hg.row.1, ?_⟩, h.uniq.filter _, h.most1, h.most2, by omega⟩, (hg.kept.mono (by simp)).setCell (.inl (by simp)) _, hg.new⟩
      rcases hg.row.2 with hn | ⟨g, cp, cur, hv, hb, hgg, rest⟩
      · exact .inl hn
      · refine .inr ⟨g, cp, cur, hv, hb, ?_, rest⟩
        injection hv with e1 e2 e3
        rw [heap_setCell_other _ _ _ _ (hne g (by rw [e1]; simp [fp]))]
        exact hgg

set_option maxHeartbeats 400000 in
theorem newr_no (most : Int) (h : most < 1 ∨ 256 < most) (w : World) :
    Calls Try.prog 12 #[.int .i64 most] w fun e w' => e = .returned (.tuple #[.pointer none, .int .i64 2]) ∧ w = w' := by
  rcases h with h | h
  · go_enter Try.func12, Try.ntmps12
    go_wp2
    go_ret2
    exact ⟨rfl, rfl⟩
  · have h' : ¬ most < 1 := by omega
    go_enter Try.func12, Try.ntmps12
    go_wp2
    go_ret2
    exact ⟨rfl, rfl⟩

set_option maxHeartbeats 400000 in
theorem newr_yes (most : Int) (h1 : 1 ≤ most) (h2 : most ≤ 256) (w : World) :
    Calls Try.prog 12 #[.int .i64 most] w fun e w' => e = .returned (.tuple #[.pointer (some ⟨w.heap.size, 0, none⟩), .int .i64 0]) ∧ RefAt w' w.heap.size none 0 most [] ∧ Kept [] w w' ∧ w'.heap.size = w.heap.size + 1 := by
  go_enter Try.func12, Try.ntmps12
  go_wp2
  go_ret2
  exact ⟨rfl, ⟨heap_alloc_new w _, World.ownsRow_nil _ _ _ _, List.Pairwise.nil, h1, h2, by simp; omega⟩, (Kept.refl [] w).alloc _, by simp⟩

/-! ### Use -/
theorem item_one' (s : ByteArray) (u : Int) : ∀ x ∈ [Value.string s, Value.int .i64 u], x.oneCell' = true := by
  intro x hx
  simp at hx
  rcases hx with rfl | rfl <;> rfl
theorem strV_data (s : ByteArray) : strV s.data.toList = .string s := by simp [strV]
theorem itemsV_setL {L : List Ent} (hu : Uniq L) {k : List UInt8} {u : Int} {i : Nat} (hi : i < L.length) (he : L[i].1 = k) : itemsV (setL L k u) = (itemsV L).set (i * 2 + 1) (.int .i64 u) := by
  induction L generalizing i with
  | nil => simp at hi
  | cons p r ih =>
    obtain ⟨h1, h2⟩ := List.pairwise_cons.1 hu
    cases i with
    | zero =>
      have hp : p.1 = k := he
      have hr : setL r k u = r := by
        unfold setL
        rw [List.map_congr_left (g := id) (fun q hq => by rw [if_neg (fun e => h1 q hq (hp.trans e.symm))]; rfl)]
        simp
      have e1 : setL (p :: r) k u = (k, u) :: setL r k u := by simp [setL, hp]
      rw [e1, hr, ← hp]
      rfl
    | succ i =>
      have hi' : i < r.length := by simpa using hi
      have he' : r[i].1 = k := he
      have hp : p.1 ≠ k := fun e => h1 r[i] (List.getElem_mem _) (e.trans he'.symm)
      have e1 : setL (p :: r) k u = p :: setL r k u := by simp [setL, hp]
      have e2 : (i + 1) * 2 + 1 = i * 2 + 1 + 1 + 1 := by omega
      rw [e1, e2]
      show itemV p ++ itemsV (setL r k u) = (itemV p ++ itemsV r).set (i * 2 + 1 + 1 + 1) (.int .i64 u)
      rw [ih h2 hi' he']
      rfl

theorem app_blk {w0 w2 : World} {sb : Nat} {a : Option Addr} {cap : Nat} {most : Int} {L : List Ent} (h : RefAt w0 sb a cap most L) {o : Obj} {n cp : Nat} (hg : (w0.alloc o).grownBy w2 (Value.slice a n cp).ownBlock) :
    w2.heap[sb]? = some (.cells #[.int .i64 most, .slice a L.length cap] 54 (0, 0)) := by
  have hlt := lt_of_heap h.blk
  rw [hg.block sb (by simp; omega) (fun e => h.ne (ownBlock_mem e.symm)), Below.heap_alloc _ _ _ hlt]
  exact h.blk
theorem app_ref {w0 w2 : World} {sb : Nat} {a : Option Addr} {cap : Nat} {most : Int} {L : List Ent} (h : RefAt w0 sb a cap most L) {o : Obj} {k : List UInt8} {u : Int} {g2 cap2 : Nat} (hl : look L k = none) (hroom : (L.length : Int) < most)
    (hown : w2.ownsRow 0 59 2 (.slice (some ⟨g2, 0, none⟩) (L.length + 1) cap2) (L.length + 1) (itemsV L ++ [strV k, .int .i64 u]))
    (hg : (w0.alloc o).grownBy w2 (Value.slice a L.length cap).ownBlock) (hat : (Value.slice a L.length cap).ownBlock = some g2 ∨ g2 = w0.heap.size + 1) :
    RefAt (w2.setCell ⟨sb, 1, none⟩ (.slice (some ⟨g2, 0, none⟩) (L.length + 1) cap2)) sb (some ⟨g2, 0, none⟩) cap2 most (L ++ [(k, u)]) ∧
      Kept (sb :: fp a) w0 (w2.setCell ⟨sb, 1, none⟩ (.slice (some ⟨g2, 0, none⟩) (L.length + 1) cap2)) ∧ (∀ i ∈ fp (some ⟨g2, 0, none⟩), i ∈ fp a ∨ w0.heap.size ≤ i) := by
  have hlt := lt_of_heap h.blk
  have hb := heap_setCell_same w2 sb 1 _ _ (.slice (some ⟨g2, 0, none⟩) (L.length + 1) cap2) (app_blk h hg)
  have hwhere : g2 ∈ fp a ∨ w0.heap.size ≤ g2 := by
    rcases hat with hat | hat
    · exact .inl (ownBlock_mem hat)
    · exact .inr (by omega)
  have hgne : g2 ≠ sb := by
    rcases hwhere with hat | hat
    · exact fun e => h.ne (by rw [← e]; exact hat)
    · omega
  refine ⟨⟨by simpa using hb, ?_, app_uniq h.uniq hl u, h.most1, h.most2, by simp; omega⟩, ?_, ?_⟩
  · rw [itemsV_snoc, List.length_append]
    refine ⟨hown.1, ?_⟩
    rcases hown.2 with hn | ⟨g, cp, cur, hv, hb, hgg, rest⟩
    · exact .inl hn
    · refine .inr ⟨g, cp, cur, hv, hb, ?_, rest⟩
      injection hv with e1 e2 e3
      injection e1 with e1
      injection e1 with e1
      rw [heap_setCell_other _ _ _ _ (by rw [← e1]; exact hgne)]
      exact hgg
  · exact (((Kept.refl _ _).alloc o).grown hg (fun i hi => .inl (List.mem_cons_of_mem _ (ownBlock_mem hi)))).setCell (.inl (by simp)) _
  · intro i hi
    simp only [fp, List.mem_singleton] at hi
    subst hi
    exact hwhere

set_option maxHeartbeats 4000000 in
set_option maxRecDepth 100000 in
theorem use_ref {w : World} {sb : Nat} {a : Option Addr} {cap : Nat} {most : Int} {L : List Ent} (h : RefAt w sb a cap most L) (s : ByteArray) (hs : s.size ≤ maxLen) (u n : Int) :
    Calls Try.prog 14 #[.pointer (some ⟨sb, 0, none⟩), .string s, .int .i64 u, .int .i64 n] w fun e w' => e = .returned (.int .i64 (useL L most s.data.toList (lim u) (lim n)).1) ∧ ∃ a' cap', RefAt w' sb a' cap' most (useL L most s.data.toList (lim u) (lim n)).2 ∧ Kept (sb :: fp a) w w' ∧ (∀ i ∈ fp a', i ∈ fp a ∨ w.heap.size ≤ i) := by
  have c0 := h.c0
  have c1 := h.c1
  have hm1 := h.most1
  have hm2 := h.most2
  have hlen := h.len
  have hsb := lt_of_heap h.blk
  have hmz : (most == 0) = false := by simp; omega
  cases hw : wordB s.data.toList
  · have E := hid (show useL L most s.data.toList (lim u) (lim n) = (5, L) by simp [useL, hw])
    go_enter Try.func14, Try.ntmps14
    go_wp2_with (first
      | (go_at_call 26; refine (limit_any _ _).mono ?_; rintro e w' ⟨rfl, rfl⟩)
      | (go_at_call 27; refine (rword_any _ _ hs).mono ?_; rintro e w' ⟨rfl, rfl⟩)
      | (go_at_call 28; refine (at_ref h s).mono ?_; rintro e w' ⟨rfl, rfl⟩))
    go_ret
    rw [E.out]
    exact ⟨rfl, a, cap, h, Kept.refl _ _, fun i hi => .inl hi⟩
  by_cases hun : lim u ≤ lim n
  · have E := hid (show useL L most s.data.toList (lim u) (lim n) = (13, L) by simp [useL, hw, hun])
    go_enter Try.func14, Try.ntmps14
    go_wp2_with (first
      | (go_at_call 26; refine (limit_any _ _).mono ?_; rintro e w' ⟨rfl, rfl⟩)
      | (go_at_call 27; refine (rword_any _ _ hs).mono ?_; rintro e w' ⟨rfl, rfl⟩)
      | (go_at_call 28; refine (at_ref h s).mono ?_; rintro e w' ⟨rfl, rfl⟩))
    go_ret
    rw [E.out]
    exact ⟨rfl, a, cap, h, Kept.refl _ _, fun i hi => .inl hi⟩
  cases hl : look L s.data.toList with
  | some o =>
    obtain ⟨i, hi, e, hp, _⟩ := atL_look hl
    obtain ⟨g, rfl, hc⟩ := h.cells (by omega)
    obtain ⟨_, hc1⟩ := hc i hi
    rw [hp] at hc1
    have hb1 : (0 : Int) ≤ i := by omega
    have hb2 : (i : Int) < L.length := by omega
    by_cases hno : lim n < o
    · have E := hid (show useL L most s.data.toList (lim u) (lim n) = (18, L) by simp [useL, hw, hun, hl, hno])
      clear hl hc hp
      go_enter Try.func14, Try.ntmps14
      go_wp2_with (first
        | (go_at_call 26; refine (limit_any _ _).mono ?_; rintro e w' ⟨rfl, rfl⟩)
        | (go_at_call 27; refine (rword_any _ _ hs).mono ?_; rintro e w' ⟨rfl, rfl⟩)
        | (go_at_call 28; refine (at_ref h s).mono ?_; rintro e w' ⟨rfl, rfl⟩))
      go_ret
      rw [E.out]
      exact ⟨rfl, _, cap, h, Kept.refl _ _, fun i hi => .inl hi⟩
    · have E := hid (show useL L most s.data.toList (lim u) (lim n) = (0, setL L s.data.toList (lim u)) by simp [useL, hw, hun, hl, hno])
      have hf1 := h.row.frozenAt (i * 2 + 1)
      have HP := hid hp
      clear hl hc hp
      go_enter Try.func14, Try.ntmps14
      go_wp2_with (first
        | (go_at_call 26; refine (limit_any _ _).mono ?_; rintro e w' ⟨rfl, rfl⟩)
        | (go_at_call 27; refine (rword_any _ _ hs).mono ?_; rintro e w' ⟨rfl, rfl⟩)
        | (go_at_call 28; refine (at_ref h s).mono ?_; rintro e w' ⟨rfl, rfl⟩))
      go_ret
      rw [E.out]
      obtain ⟨hs1, hs2⟩ := h.row.stored (i * 2 + 1) (.int .i64 (lim u))
      have hgne : sb ≠ g := fun e => h.ne (by simp [fp, e])
      have hk2 : Kept [g] w (w.setCell ⟨g, i * 2 + 1, none⟩ (.int .i64 (lim u))) := (Kept.refl _ _).setCell (.inl (by simp)) _
      refine ⟨rfl, some ⟨g, 0, none⟩, cap, ⟨?_, ?_, setL_uniq h.uniq _ _, hm1, hm2, by rw [setL_len]; exact hlen⟩, hk2.mono (by simp [fp]), fun i hi => .inl hi⟩
      · rw [setL_len]; exact hk2.at h.blk (by simpa using hgne)
      · rw [setL_len, itemsV_setL h.uniq hi (by rw [HP.out])]; exact hs1
  | none =>
    have e := atL_look_none hl
    have hd : decide ((0 : Int) ≤ -1) = false := rfl
    have hu := h.uniq
    have hk : ∀ m, RefAt (w.drewN m) sb a cap most L := fun m => h.kept ((Kept.refl [] w).drewN m) (by simp) (by simp)
    obtain ⟨i0, hi, hz0, hz1, hz2⟩ := info_parts infoItem
    have hlk := look_live hl (lim n)
    by_cases hf : (L.length : Int) < most
    · have E := hid (show useL L most s.data.toList (lim u) (lim n) = (0, L ++ [(s.data.toList, lim u)]) by simp [useL, hw, hun, hl, roomB, roomL, hf])
      have hd2 : decide (most ≤ (L.length : Int)) = false := by simpa using hf
      have Hl := hid hl
      clear hl hlk
      go_enter Try.func14, Try.ntmps14
      go_wp2_with (first
        | (go_at_call 26; refine (limit_any _ _).mono ?_; rintro e w' ⟨rfl, rfl⟩)
        | (go_at_call 27; refine (rword_any _ _ hs).mono ?_; rintro e w' ⟨rfl, rfl⟩)
        | (go_at_call 28; refine (at_ref h s).mono ?_; rintro e w' ⟨rfl, rfl⟩))
      go_quiet (fail)
      go_wp2_with fail
      go_quiet (fail)
      go_wp2_with (first | (at_builtin; refine wpList_append_lies _ rfl _ _ _ rfl 0 59 i0 _ 2 24 Try.underlying52 hi hz0 hz1 hz2 rfl (by omega) _ _ _ rfl ((hk _).row.alloc _) ⟨w.heap.size, 0, none⟩ 1 1 [.string s, .int .i64 (lim u)] rfl rfl (cell_two_new _ _ _ _) (item_one' s _) (by omega) (by unfold maxLen; omega) (by omega) (Nat.zero_le _) (w.heap.size + 1) (by simp) ?_; intro g2 cap2 w2 hown hgrow hat hlt2; have hb2 := app_blk (hk _) hgrow; have hf2 := free_at hb2 1; have c2 : w2.cell? ⟨sb, 1, none⟩ = some (.slice a L.length cap) := by (rw [cell_at hb2]; rfl)))
      go_ret
      rw [E.out]
      obtain ⟨r1, r2, r3⟩ := app_ref (hk _) Hl.out hf (by rw [strV_data]; exact hown) hgrow hat
      exact ⟨rfl, _, _, r1, ((Kept.refl _ w).drewN _).step r2 (fun i hi => hi), r3⟩
    · by_cases hv : ((live L (lim n)).length : Int) < most
      · have E := hid (show useL L most s.data.toList (lim u) (lim n) = (0, live L (lim n) ++ [(s.data.toList, lim u)]) by simp [useL, hw, hun, hl, roomB, roomL, hf, hv])
        have hd2 : decide (most ≤ (L.length : Int)) = true := by simp; omega
        have hd3 : decide (most ≤ ((live L (lim n)).length : Int)) = false := by simpa using hv
        have hll := live_le L (lim n)
        have Hl := hid hlk
        clear hl hlk
        go_enter Try.func14, Try.ntmps14
        go_wp2_with (first
          | (go_at_call 26; refine (limit_any _ _).mono ?_; rintro e w' ⟨rfl, rfl⟩)
          | (go_at_call 27; refine (rword_any _ _ hs).mono ?_; rintro e w' ⟨rfl, rfl⟩)
          | (go_at_call 28; refine (at_ref h s).mono ?_; rintro e w' ⟨rfl, rfl⟩))
        go_quiet (fail)
        go_wp2_with (first
      | (go_at_call 26; refine (limit_any _ _).mono ?_; rintro e w' ⟨rfl, rfl⟩)
      | (go_at_call 27; refine (rword_any _ _ hs).mono ?_; rintro e w' ⟨rfl, rfl⟩)
      | (go_at_call 28; refine (at_ref h s).mono ?_; rintro e w' ⟨rfl, rfl⟩)
      | (go_at_call 18; refine (purge_ref (hk _) _).mono ?_; rintro e w1 ⟨rfl, a1, cap1, hr1, hk1, hnew1⟩; rw [lim_lim] at hr1; have c10 := hr1.c0; have c11 := hr1.c1))
        have hk1' : ∀ m, RefAt (w1.drewN m) sb a1 cap1 most (live L (lim n)) := fun m => hr1.kept ((Kept.refl [] w1).drewN m) (by simp) (by simp)
        go_quiet (fail)
        go_wp2_with (first | (at_builtin; refine wpList_append_lies _ rfl _ _ _ rfl 0 59 i0 _ 2 24 Try.underlying52 hi hz0 hz1 hz2 rfl (by omega) _ _ _ rfl ((hk1' _).row.alloc _) ⟨w1.heap.size, 0, none⟩ 1 1 [.string s, .int .i64 (lim u)] rfl rfl (cell_two_new _ _ _ _) (item_one' s _) (by omega) (by unfold maxLen; omega) (by omega) (Nat.zero_le _) (w1.heap.size + 1) (by simp) ?_; intro g2 cap2 w2 hown hgrow hat hlt2; have hb2 := app_blk (hk1' _) hgrow; have hf2 := free_at hb2 1; have c2 : w2.cell? ⟨sb, 1, none⟩ = some (.slice a1 (live L (lim n)).length cap1) := by (rw [cell_at hb2]; rfl)))
        go_ret
        rw [E.out]
        obtain ⟨r1, r2, r3⟩ := app_ref (hk1' _) Hl.out hv (by rw [strV_data]; exact hown) hgrow hat
        have hs1 := hk1.size
        refine ⟨rfl, _, _, r1, ?_, ?_⟩
        · exact ((((Kept.refl (sb :: fp a) w).drewN _).step hk1 (by simp)).drewN _).trans r2 (fun i hi => by
            rcases List.mem_cons.1 hi with e | hi
            · exact .inl (by simp [e])
            · exact .inr (hnew1 i hi))
        · intro i hi
          rcases r3 i hi with hi | hi
          · exact .inr (hnew1 i hi)
          · exact .inr (Nat.le_trans hs1 hi)
      · have E := hid (show useL L most s.data.toList (lim u) (lim n) = (3, live L (lim n)) by simp [useL, hw, hun, hl, roomB, roomL, hf, hv])
        have hd2 : decide (most ≤ (L.length : Int)) = true := by simp; omega
        have hd3 : decide (most ≤ ((live L (lim n)).length : Int)) = true := by simp; omega
        clear hl hlk
        go_enter Try.func14, Try.ntmps14
        go_wp2_with (first
          | (go_at_call 26; refine (limit_any _ _).mono ?_; rintro e w' ⟨rfl, rfl⟩)
          | (go_at_call 27; refine (rword_any _ _ hs).mono ?_; rintro e w' ⟨rfl, rfl⟩)
          | (go_at_call 28; refine (at_ref h s).mono ?_; rintro e w' ⟨rfl, rfl⟩))
        go_quiet (fail)
        go_wp2_with (first
      | (go_at_call 26; refine (limit_any _ _).mono ?_; rintro e w' ⟨rfl, rfl⟩)
      | (go_at_call 27; refine (rword_any _ _ hs).mono ?_; rintro e w' ⟨rfl, rfl⟩)
      | (go_at_call 28; refine (at_ref h s).mono ?_; rintro e w' ⟨rfl, rfl⟩)
      | (go_at_call 18; refine (purge_ref (hk _) _).mono ?_; rintro e w1 ⟨rfl, a1, cap1, hr1, hk1, hnew1⟩; rw [lim_lim] at hr1; have c10 := hr1.c0; have c11 := hr1.c1))
        go_quiet (fail)
        go_wp2_with fail
        go_ret
        rw [E.out]
        have hk0 := ((Kept.refl [sb] w).drewN 1)
        refine ⟨rfl, a1, cap1, hr1.kept ((Kept.refl [] w1).drewN _) (by simp) (by simp), ?_, ?_⟩
        · exact (((Kept.refl (sb :: fp a) w).drewN _).step hk1 (by simp)).drewN _
        · exact fun i hi => .inr (hnew1 i hi)

end Go.Proofs.Ytiaklgmmiadfoaa
