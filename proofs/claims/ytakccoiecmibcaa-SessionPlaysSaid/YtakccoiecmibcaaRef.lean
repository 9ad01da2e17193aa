/- The reference's sessions in memory; New, Made, find, until, live, has. -/
import Derived.Test.YtakccoiecmibcaaKept
import Derived.Deep.RegionHeld3
namespace Go.Proofs.Ytakccoiecmibcaa
open Go.RowKit Go.Maps

set_option maxHeartbeats 400000 in
theorem rlimited_any (t : Int) (w : World) :
    Calls Try.prog 40 #[.int .i64 t] w fun e w' => e = .returned (.int .i64 (lim t)) ∧ w = w' := by
  go_enter Try.func40, Try.ntmps40
  go_wp2
  all_goals (go_ret; exact ⟨ret_int (by unfold lim; omega), rfl⟩)
set_option maxHeartbeats 400000 in
theorem radd_any (t d : Int) (w : World) :
    Calls Try.prog 82 #[.int .i64 t, .int .i64 d] w fun e w' => e = .returned (.int .i64 (addI t d)) ∧ w = w' := by
  have h1 := lim_bd t
  have h2 := lim_bd d
  go_enter Try.func82, Try.ntmps82
  go_wp2_with (go_at_call 89; refine (limit_any _ _).mono ?_; rintro e w' ⟨rfl, rfl⟩)
  go_ret
  exact ⟨rfl, rfl⟩
/-- A list whose block is of one type. -/
def LB {α : Type} (E : TypeId) (sz : Nat) (enc : α → List Value) (w : World) (a : Option Addr) (l : List α) : Prop := ListAt sz enc w a l ∧ ∀ i ∈ fp a, ∃ cur, w.heap[i]? = some (.cells cur E (0, 0))
theorem LB.kept {α : Type} {E : TypeId} {sz : Nat} {enc : α → List Value} {S : List Nat} {w w' : World} {a : Option Addr} {l : List α} (h : LB E sz enc w a l) (k : Kept S w w') (hS : ∀ i ∈ fp a, i ∉ S) : LB E sz enc w' a l :=
  ⟨SeqAt.kept h.1 CEnc.lasts k (fun _ x hx => by subst hx; exact hS _ (by simp [fp])), fun i hi => by obtain ⟨cur, hc⟩ := h.2 i hi; exact ⟨cur, k.at hc (hS i hi)⟩⟩
theorem LB.keptN {α : Type} {E : TypeId} {sz : Nat} {enc : α → List Value} {w w' : World} {a : Option Addr} {l : List α} (h : LB E sz enc w a l) (k : Kept [] w w') : LB E sz enc w' a l := h.kept k (by simp)
theorem LB.of {α : Type} {P : Program} {E : TypeId} {sz bytes : Nat} {enc : α → List Value} (he : Enc P E sz bytes enc) {w0 w : World} {a : Option Addr} {cap : Nat} {l : List α} (h : OwnL E sz enc w0 w a cap l) : LB E sz enc w a l := ⟨h.seq he, row_blk h.row⟩
def encK (q : EP) : List Value := [sV q.id, sV q.x.user, sV q.x.tenant, sV q.x.device, .int .i64 q.x.started, .int .i64 q.x.seen, .int .i64 q.x.until_, .slice q.pa q.x.proofs.length q.pc, .slice q.ca q.x.clients.length q.cc, .bool q.x.ended]
theorem encKOk : Enc Try.prog 87 10 144 encK :=
  ⟨fun _ => rfl, fun x v hv => by simp [encK] at hv; rcases hv with rfl | rfl | rfl | rfl | rfl | rfl | rfl | rfl | rfl | rfl <;> rfl, by omega, by omega, by
    obtain ⟨i0, hi, h1, h2, h3⟩ := info_parts (show (Try.prog.info? 87).map (fun i => (i.zero, i.size, i.bytes)) = some (some (.agg #[.string ⟨#[]⟩, .string ⟨#[]⟩, .string ⟨#[]⟩, .string ⟨#[]⟩, .int .i64 0, .int .i64 0, .int .i64 0, .slice none 0 0, .slice none 0 0, .bool false]), 10, 144) by kernel_rfl)
    exact ⟨i0, _, hi, h1, h2, h3, rfl⟩⟩
def absK (Y : List EP) : Sss := Y.map fun q => (q.id, q.x)
def rdom (qb : Nat) (a : Option Addr) (Y : List EP) : List Nat := qb :: (fp a ++ Y.flatMap fun q => fp q.pa ++ fp q.ca)
def KL (w : World) (q : EP) : Prop := LB 59 2 encP w q.pa q.x.proofs ∧ LB 9 1 encS w q.ca q.x.clients
structure RefAt (w : World) (qb : Nat) (idle abs : Int) (a : Option Addr) (cap : Nat) (Y : List EP) : Prop where
  blk : w.heap[qb]? = some (.cells #[.bool true, .int .i64 idle, .int .i64 abs, .slice a Y.length cap] 82 (0, 0))
  row : w.ownsRow 0 87 10 (.slice a Y.length cap) Y.length (rowV encK Y)
  each : ∀ q ∈ Y, KL w q
  few : Y.length ≤ 256
  good : Good idle abs (absK Y)
theorem rdom_mem {qb : Nat} {a : Option Addr} {Y : List EP} {i : Nat} : i ∈ rdom qb a Y ↔ i = qb ∨ i ∈ fp a ∨ ∃ q ∈ Y, i ∈ fp q.pa ∨ i ∈ fp q.ca := by
  unfold rdom; simp only [List.mem_cons, List.mem_append, List.mem_flatMap]
theorem KL.blk {w : World} {q : EP} (h : KL w q) : ∀ i, i ∈ fp q.pa ∨ i ∈ fp q.ca → ∃ cur t, w.heap[i]? = some (.cells cur t (0, 0)) ∧ t ≠ 87 ∧ t ≠ 82 := by
  rintro i (hi | hi)
  · obtain ⟨cur, hc⟩ := h.1.2 i hi; exact ⟨cur, _, hc, by decide, by decide⟩
  · obtain ⟨cur, hc⟩ := h.2.2 i hi; exact ⟨cur, _, hc, by decide, by decide⟩
theorem KL.keptN {w w' : World} {q : EP} (h : KL w q) (k : Kept [] w w') : KL w' q := ⟨h.1.keptN k, h.2.keptN k⟩
section
variable {w w' : World} {qb : Nat} {idle abs : Int} {a : Option Addr} {cap : Nat} {Y : List EP}
theorem RefAt.lt (h : RefAt w qb idle abs a cap Y) : ∀ i ∈ rdom qb a Y, i < w.heap.size := by
  intro i hi
  rcases rdom_mem.1 hi with e | e | ⟨e, he, hf⟩
  · rw [e]; exact lt_of_heap h.blk
  · obtain ⟨cur, hc⟩ := row_blk h.row i e; exact lt_of_heap hc
  · obtain ⟨cur, t, hc, _⟩ := (h.each e he).blk i hf; exact lt_of_heap hc
theorem RefAt.kept {S : List Nat} (h : RefAt w qb idle abs a cap Y) (k : Kept S w w') (hS : ∀ i ∈ rdom qb a Y, i ∉ S) : RefAt w' qb idle abs a cap Y :=
  ⟨k.at h.blk (hS _ (rdom_mem.2 (.inl rfl))), row_kept h.row k (fun _ hi => hS _ (rdom_mem.2 (.inr (.inl hi)))), fun e he => ⟨(h.each e he).1.kept k (fun _ hi => hS _ (rdom_mem.2 (.inr (.inr ⟨e, he, .inl hi⟩)))), (h.each e he).2.kept k (fun _ hi => hS _ (rdom_mem.2 (.inr (.inr ⟨e, he, .inr hi⟩))))⟩, h.few, h.good⟩
theorem RefAt.keptN (h : RefAt w qb idle abs a cap Y) (k : Kept [] w w') : RefAt w' qb idle abs a cap Y := h.kept k (by simp)
theorem RefAt.c0 (h : RefAt w qb idle abs a cap Y) : w.cell? ⟨qb, 0, none⟩ = some (.bool true) := by rw [cell_at h.blk]; rfl
theorem RefAt.c1 (h : RefAt w qb idle abs a cap Y) : w.cell? ⟨qb, 1, none⟩ = some (.int .i64 idle) := by rw [cell_at h.blk]; rfl
theorem RefAt.c2 (h : RefAt w qb idle abs a cap Y) : w.cell? ⟨qb, 2, none⟩ = some (.int .i64 abs) := by rw [cell_at h.blk]; rfl
theorem RefAt.c3 (h : RefAt w qb idle abs a cap Y) : w.cell? ⟨qb, 3, none⟩ = some (.slice a Y.length cap) := by rw [cell_at h.blk]; rfl
theorem RefAt.get (h : RefAt w qb idle abs a cap Y) {i : Nat} (hi : i < Y.length) : ∃ g cur, a = some ⟨g, 0, none⟩ ∧ w.heap[g]? = some (.cells cur 87 (0, 0)) ∧ cur.size = cap * 10 ∧ Y.length ≤ cap ∧ EC w g (i * 10) Y[i] := by
  obtain ⟨g, cur, rfl, hg, hn, hc, hcs, htk⟩ := row_some h.row (by omega)
  obtain ⟨b, off, e, hb, hcell⟩ := (row_list encKOk h.row).at hi
  injection e with e; injection e with e1 e2
  subst e1; subst e2
  rw [Nat.zero_add] at hcell
  exact ⟨g, cur, rfl, hg, hcs, hn, by have := hcell 0 _ rfl; rwa [Nat.add_zero] at this, hcell 1 _ rfl, hcell 2 _ rfl, hcell 3 _ rfl, hcell 4 _ rfl, hcell 5 _ rfl, hcell 6 _ rfl, hcell 7 _ rfl, hcell 8 _ rfl, hcell 9 _ rfl⟩
theorem RefAt.g_ne (h : RefAt w qb idle abs a cap Y) : qb ∉ fp a := by
  intro hi
  obtain ⟨cur, hc⟩ := row_blk h.row _ hi
  rw [h.blk] at hc
  injection hc with hc
  injection hc with _ hc _
  exact absurd hc (by decide)
end
def eqK (k : Str) (q : EP) : Bool := q.id == k
theorem look_idx {Y : List EP} {k : Str} : (idx (eqK k) Y = -1 ∧ alook (absK Y) k = none) ∨ ∃ i, ∃ h : i < Y.length, idx (eqK k) Y = i ∧ Y[i].id = k ∧ alook (absK Y) k = some Y[i].x := by
  rcases idx_split (p := eqK k) (l := Y) with ⟨e, hn⟩ | ⟨i, hi, e, hp, hn⟩
  · left
    refine ⟨e, alook_none.2 (fun p hp hk => ?_)⟩
    obtain ⟨q, hq, rfl⟩ := List.mem_map.1 hp
    have := hn q hq
    unfold eqK at this
    simp at this
    exact this hk
  · right
    refine ⟨i, hi, e, by unfold eqK at hp; simpa using hp, ?_⟩
    have hk : Y[i].id = k := by unfold eqK at hp; simpa using hp
    clear e hp
    induction Y generalizing i with
    | nil => simp at hi
    | cons y r ih =>
      show alook ((y.id, y.x) :: absK r) k = _
      rw [alook_cons]
      cases i with
      | zero => simp at hk; rw [if_pos hk]; rfl
      | succ i =>
        have h0 := hn 0 (by omega) (by simp)
        unfold eqK at h0
        simp at h0
        rw [if_neg h0]
        simp only [List.getElem_cons_succ] at hk ⊢
        exact ih i (by simpa using hi) (fun j hj hjl => by have := hn (j + 1) (by omega) (by simp; omega); simpa using this) hk
set_option maxHeartbeats 1000000 in
theorem rnew_bad {idle abs : Int} (hc : newC idle abs ≠ 0) (w : World) :
    Calls Try.prog 19 #[.int .i64 idle, .int .i64 abs] w fun e w' => e = .returned (.tuple #[.pointer none, .int .i64 (newC idle abs)]) ∧ w = w' := by
  have HE := hid (show newC idle abs = 2 by unfold newC at hc ⊢; split at hc <;> simp_all)
  rw [HE.out]
  by_cases h1 : lim idle < 1
  · clear hc
    go_enter Try.func19, Try.ntmps19
    go_wp2_with (go_at_call 40; refine (rlimited_any _ _).mono ?_; rintro e w' ⟨rfl, rfl⟩)
    go_ret2
    exact ⟨rfl, rfl⟩
  · have h2 : lim abs < 1 := by unfold newC at hc; split at hc <;> first | omega | exact absurd rfl hc
    clear hc
    go_enter Try.func19, Try.ntmps19
    go_wp2_with (go_at_call 40; refine (rlimited_any _ _).mono ?_; rintro e w' ⟨rfl, rfl⟩)
    go_ret2
    exact ⟨rfl, rfl⟩
set_option maxHeartbeats 1000000 in
theorem rnew_ok {idle abs : Int} (hc : newC idle abs = 0) (w : World) :
    Calls Try.prog 19 #[.int .i64 idle, .int .i64 abs] w fun e w' => e = .returned (.tuple #[.pointer (some ⟨w.heap.size, 0, none⟩), .int .i64 0]) ∧ RefAt w' w.heap.size (lim idle) (lim abs) none 0 [] ∧ Kept [] w w' := by
  have h1 : 1 ≤ lim idle := by unfold newC at hc; split at hc <;> first | omega | cases hc
  have h2 : 1 ≤ lim abs := by unfold newC at hc; split at hc <;> first | omega | cases hc
  clear hc
  go_enter Try.func19, Try.ntmps19
  go_wp2_with (go_at_call 40; refine (rlimited_any _ _).mono ?_; rintro e w' ⟨rfl, rfl⟩)
  go_ret2
  exact ⟨rfl, ⟨heap_alloc_new w _, World.ownsRow_nil _ _ _ _, by simp, by simp, Good.nil _ _⟩, (Kept.refl [] w).alloc _⟩
set_option maxHeartbeats 400000 in
theorem rmade_any {w : World} {qb : Nat} (c0 : w.cell? ⟨qb, 0, none⟩ = some (.bool true)) :
    Calls Try.prog 49 #[.pointer (some ⟨qb, 0, none⟩)] w fun e w' => e = .returned (.bool true) ∧ w = w' := by
  go_enter Try.func49, Try.ntmps49
  go_wp2
  go_ret
  exact ⟨rfl, rfl⟩
section
variable {w : World} {qb : Nat} {idle abs : Int} {a : Option Addr} {cap : Nat} {Y : List EP}
set_option maxHeartbeats 1000000 in
theorem rfind_any (h : RefAt w qb idle abs a cap Y) (s : ByteArray) :
    Calls Try.prog 63 #[.pointer (some ⟨qb, 0, none⟩), .string s] w fun e w' => e = .returned (.int .i64 (idx (eqK s.data.toList) Y)) ∧ w = w' := by
  have c3 := h.c3
  have hfew := h.few
  go_enter Try.func63, Try.ntmps63
  go_wp2_with fail
  go_loop [5] (fun i => ∃ k : Nat, k ≤ Y.length ∧ i = .int .i64 k ∧ NoneTo (eqK s.data.toList) Y k) (fun i => Y.length - (intOf i).toNat)
  case atStart => exact ⟨0, Nat.zero_le _, rfl, NoneTo.zero _ _⟩
  case round =>
    obtain ⟨k, hk, rfl, hn⟩ := hrel
    by_cases hlt : k < Y.length
    · obtain ⟨g, cur, rfl, hg, hcs, hnc, hc⟩ := h.get hlt
      have d0 := hc.c0
      have hb1 : (0 : Int) ≤ k := by omega
      have hb2 : (k : Int) < Y.length := by omega
      cases hp : eqK s.data.toList Y[k]
      · have e1 : (Y[k].id == s.toList) = false := by rw [ByteArray.toList_eq]; exact hp
        have HN := hid (hn.next hlt hp)
        clear hp hc hg
        go_wp2_with fail
        go_round
        case rel => exact ⟨k + 1, by omega, by go_num, HN.out⟩
        case measure => simp [intOf]; omega
      · have e1 : (Y[k].id == s.toList) = true := by rw [ByteArray.toList_eq]; exact hp
        have HN := hid (idx_yes hn hlt hp)
        clear hp hc hg
        go_wp2_with fail
        go_ret
        exact ⟨ret_int HN.out.symm, rfl⟩
    · have hx := hid (idx_no (hn.all (by omega)))
      go_wp2_with fail
      go_ret
      exact ⟨ret_int hx.out.symm, rfl⟩
end
set_option maxHeartbeats 1000000 in
theorem rhas_any {w : World} {a : Option Addr} {cap : Nat} {l : List Str} (h : StrsAt w a l) (s : ByteArray) :
    Calls Try.prog 66 #[.slice a l.length cap, .string s] w fun e w' => e = .returned (.bool (hasS l s.data.toList)) ∧ w = w' := by
  have hf := h.few
  unfold maxLen at hf
  go_enter Try.func66, Try.ntmps66
  go_wp2_with fail
  go_loop [5] (fun i => ∃ k : Nat, k ≤ l.length ∧ i = .int .i64 k ∧ NoneTo (eqS s.data.toList) l k) (fun i => l.length - (intOf i).toNat)
  case atStart => exact ⟨0, Nat.zero_le _, rfl, NoneTo.zero _ _⟩
  case round =>
    obtain ⟨k, hk, rfl, hn⟩ := hrel
    by_cases hlt : k < l.length
    · obtain ⟨b, off, rfl, hb, hc⟩ := h.get hlt
      unfold sV at hc
      have hb1 : (0 : Int) ≤ k := by omega
      have hb2 : (k : Int) < l.length := by omega
      cases hp : eqS s.data.toList l[k]
      · obtain ⟨e1, e2⟩ := str_eq _ _ _ hp
        have HP := hid hp
        clear hp
        go_wp2_with fail
        go_round
        case rel => exact ⟨k + 1, by omega, by go_num, hn.next hlt HP.out⟩
        case measure => simp [intOf]; omega
      · obtain ⟨e1, e2⟩ := str_eq _ _ _ hp
        have HP := hid hp
        clear hp
        go_wp2_with fail
        go_ret
        exact ⟨ret_bool (any_yes hlt HP.out).symm, rfl⟩
    · have hx := hid (any_no hn (by omega))
      go_wp2_with fail
      go_ret
      exact ⟨ret_bool hx.out.symm, rfl⟩
/-! ### live -/
def liveI (Y : List EP) (k : Str) (now : Int) : Int := if findC (absK Y) k now = 0 then idx (eqK k) Y else -1
set_option maxHeartbeats 4000000 in
set_option maxRecDepth 100000 in
theorem rlive_any {w : World} {qb : Nat} {idle abs : Int} {a : Option Addr} {cap : Nat} {Y : List EP} (h : RefAt w qb idle abs a cap Y) (s : ByteArray) (now : Int) :
    Calls Try.prog 48 #[.pointer (some ⟨qb, 0, none⟩), .string s, .int .i64 now] w fun e w' => e = .returned (.tuple #[.int .i64 (liveI Y s.data.toList now), .int .i64 (findC (absK Y) s.data.toList now)]) ∧ DrewN w w' := by
  have HF := hid (rfind_any h s)
  have c0 := h.c0
  have c3 := h.c3
  have hfew := h.few
  rcases look_idx (Y := Y) (k := s.data.toList) with ⟨e, hn⟩ | ⟨i, hi, e, hk, hl⟩
  · rw [e] at HF
    have E := hid (show findC (absK Y) s.data.toList now = 6 by unfold findC; rw [hn])
    have E2 := hid (show liveI Y s.data.toList now = -1 by unfold liveI; rw [E.out]; rfl)
    rw [E.out, E2.out]
    clear e hn
    go_enter Try.func48, Try.ntmps48
    go_wp2_with (go_at_call 49; refine (rmade_any c0).mono ?_; rintro e w' ⟨rfl, rfl⟩)
    refine HF.out.mono ?_
    rintro e w' ⟨rfl, rfl⟩
    go_wp2_with fail
    go_ret2
    exact ⟨rfl, DrewN.refl _⟩
  · rw [e] at HF
    have E := hid (show findC (absK Y) s.data.toList now = if Y[i].x.ended then 6 else if Y[i].x.until_ ≤ lim now then 13 else 0 by unfold findC; rw [hl])
    have E2 := hid (show liveI Y s.data.toList now = if findC (absK Y) s.data.toList now = 0 then (i : Int) else -1 by unfold liveI; rw [e])
    rw [E2.out, E.out]
    clear E2 E
    obtain ⟨g, cur, rfl, hg, hcs, hnc, hc⟩ := h.get hi
    have hi1 : (0 : Int) ≤ i := by omega
    have hi2 : (i : Int) < Y.length := by omega
    have HA := hid (fun t n => Calls.quiet_of_same (n := n) (w := w) ((rlimited_any t (w.drewN n)).mono fun _ _ h => ⟨h.1, h.2.symm⟩))
    clear e hk hl hg
    generalize Y[i] = y at *
    have d6 := hc.c6
    have d9 := hc.c9
    clear hc
    generalize y.x.ended = en at *
    generalize y.x.until_ = un at *
    cases en
    · by_cases h1 : un ≤ lim now
      · rw [if_neg (by simp : ¬ (false = true)), if_pos h1, if_neg (by decide)]
        go_enter Try.func48, Try.ntmps48
        go_wp2_with (go_at_call 49; refine (rmade_any c0).mono ?_; rintro e w' ⟨rfl, rfl⟩)
        refine HF.out.mono ?_
        rintro e w' ⟨rfl, rfl⟩
        go_wp2_with fail
        go_quiet ((go_at_call 40; with_reducible exact HA.out _ _))
        go_wp2_with fail
        go_ret2
        exact ⟨rfl, _, rfl⟩
      · rw [if_neg (by simp : ¬ (false = true)), if_neg h1, if_pos rfl]
        go_enter Try.func48, Try.ntmps48
        go_wp2_with (go_at_call 49; refine (rmade_any c0).mono ?_; rintro e w' ⟨rfl, rfl⟩)
        refine HF.out.mono ?_
        rintro e w' ⟨rfl, rfl⟩
        go_wp2_with fail
        go_quiet ((go_at_call 40; with_reducible exact HA.out _ _))
        go_wp2_with fail
        go_ret2
        exact ⟨rfl, _, rfl⟩
    · rw [if_pos rfl, if_neg (by decide)]
      go_enter Try.func48, Try.ntmps48
      go_wp2_with (go_at_call 49; refine (rmade_any c0).mono ?_; rintro e w' ⟨rfl, rfl⟩)
      refine HF.out.mono ?_
      rintro e w' ⟨rfl, rfl⟩
      go_wp2_with fail
      go_ret2
      exact ⟨rfl, DrewN.refl _⟩
theorem rlive {Y : List EP} {k : Str} {now : Int} (hz : findC (absK Y) k now = 0) : ∃ i, ∃ hi : i < Y.length, liveI Y k now = i ∧ Y[i].id = k ∧ alook (absK Y) k = some Y[i].x ∧ Y[i].x.ended = false ∧ lim now < Y[i].x.until_ := by
  rcases look_idx (Y := Y) (k := k) with ⟨e, hn⟩ | ⟨i, hi, e, hk, hl⟩
  · unfold findC at hz; rw [hn] at hz; cases hz
  · obtain ⟨h1, h2⟩ := (find_of hl now).1 hz
    exact ⟨i, hi, by unfold liveI; rw [if_pos hz, e], hk, hl, h1, h2⟩
end Go.Proofs.Ytakccoiecmibcaa
