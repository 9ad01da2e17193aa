/- The reference's workflows in memory; find, word, within, New. -/
import Derived.Test.YtionejokdfgmhaaLawQ2
import Derived.Deep.RegionHeld3
namespace Go.Proofs.Ytionejokdfgmhaa
open Go.RowKit Go.Maps

/-- A list whose block is of one type. -/
def LB {α : Type} (E : TypeId) (sz : Nat) (enc : α → List Value) (w : World) (a : Option Addr) (l : List α) : Prop := ListAt sz enc w a l ∧ ∀ i ∈ fp a, ∃ cur, w.heap[i]? = some (.cells cur E (0, 0))
theorem LB.kept {α : Type} {E : TypeId} {sz : Nat} {enc : α → List Value} {S : List Nat} {w w' : World} {a : Option Addr} {l : List α} (h : LB E sz enc w a l) (k : Kept S w w') (hS : ∀ i ∈ fp a, i ∉ S) : LB E sz enc w' a l :=
  ⟨SeqAt.kept h.1 CEnc.lasts k (fun _ x hx => by subst hx; exact hS _ (by simp [fp])), fun i hi => by obtain ⟨cur, hc⟩ := h.2 i hi; exact ⟨cur, k.at hc (hS i hi)⟩⟩
theorem LB.keptN {α : Type} {E : TypeId} {sz : Nat} {enc : α → List Value} {w w' : World} {a : Option Addr} {l : List α} (h : LB E sz enc w a l) (k : Kept [] w w') : LB E sz enc w' a l := h.kept k (by simp)
theorem LB.of {α : Type} {P : Program} {E : TypeId} {sz bytes : Nat} {enc : α → List Value} (he : Enc P E sz bytes enc) {w0 w : World} {a : Option Addr} {cap : Nat} {l : List α} (h : OwnL E sz enc w0 w a cap l) : LB E sz enc w a l := ⟨h.seq he, row_blk h.row⟩
/-- Where a workflow of the reference has its lists. -/
structure RP where
  sa : Option Addr
  sc : Nat
  aa : Option Addr
  ac : Nat
  x : Proc
abbrev Ent := Str × RP
def encR (e : Ent) : List Value := [sV e.1, sV e.2.x.kind, sV e.2.x.user, sV e.2.x.by_, .slice e.2.sa e.2.x.steps.length e.2.sc, .int .i64 e.2.x.until_, .int .i64 e.2.x.step, .int .i64 e.2.x.count, .slice e.2.aa e.2.x.appr.length e.2.ac, .bool e.2.x.rej, .bool e.2.x.tak]
theorem encROk : Enc Try.prog 75 11 144 encR :=
  ⟨fun _ => rfl, fun x v hv => by simp [encR] at hv; rcases hv with rfl | rfl | rfl | rfl | rfl | rfl | rfl | rfl | rfl | rfl | rfl <;> rfl, by omega, by omega, by
    obtain ⟨i0, hi, h1, h2, h3⟩ := info_parts (show (Try.prog.info? 75).map (fun i => (i.zero, i.size, i.bytes)) = some (some (.agg #[.string ⟨#[]⟩, .string ⟨#[]⟩, .string ⟨#[]⟩, .string ⟨#[]⟩, .slice none 0 0, .int .i64 0, .int .i64 0, .int .i64 0, .slice none 0 0, .bool false, .bool false]), 11, 144) by kernel_rfl)
    exact ⟨i0, _, hi, h1, h2, h3, rfl⟩⟩
def absR (Y : List Ent) : Wfs := Y.map fun e => (e.1, e.2.x)
def rdom (qb : Nat) (a : Option Addr) (Y : List Ent) : List Nat := qb :: (fp a ++ Y.flatMap fun e => fp e.2.sa ++ fp e.2.aa)
def EntL (w : World) (e : Ent) : Prop := LB 44 2 encT w e.2.sa e.2.x.steps ∧ LB 9 1 encS w e.2.aa e.2.x.appr
structure RefAt (w : World) (qb : Nat) (a : Option Addr) (cap : Nat) (Y : List Ent) : Prop where
  blk : w.heap[qb]? = some (.cells #[.slice a Y.length cap] 65 (0, 0))
  row : w.ownsRow 0 75 11 (.slice a Y.length cap) Y.length (rowV encR Y)
  each : ∀ e ∈ Y, EntL w e
  few : Y.length ≤ 256
  inv : ∀ e ∈ Y, Inv e.2.x
  uniq : AUniq (absR Y)
theorem rdom_mem {qb : Nat} {a : Option Addr} {Y : List Ent} {i : Nat} : i ∈ rdom qb a Y ↔ i = qb ∨ i ∈ fp a ∨ ∃ e ∈ Y, i ∈ fp e.2.sa ∨ i ∈ fp e.2.aa := by
  unfold rdom; simp only [List.mem_cons, List.mem_append, List.mem_flatMap]
theorem EntL.blk {w : World} {e : Ent} (h : EntL w e) : ∀ i, i ∈ fp e.2.sa ∨ i ∈ fp e.2.aa → ∃ cur t, w.heap[i]? = some (.cells cur t (0, 0)) ∧ t ≠ 75 ∧ t ≠ 65 := by
  rintro i (hi | hi)
  · obtain ⟨cur, hc⟩ := h.1.2 i hi; exact ⟨cur, _, hc, by decide, by decide⟩
  · obtain ⟨cur, hc⟩ := h.2.2 i hi; exact ⟨cur, _, hc, by decide, by decide⟩
theorem RefAt.lt {w : World} {qb : Nat} {a : Option Addr} {cap : Nat} {Y : List Ent} (h : RefAt w qb a cap Y) : ∀ i ∈ rdom qb a Y, i < w.heap.size := by
  intro i hi
  rcases rdom_mem.1 hi with e | e | ⟨e, he, hf⟩
  · rw [e]; exact lt_of_heap h.blk
  · obtain ⟨cur, hc⟩ := row_blk h.row i e; exact lt_of_heap hc
  · obtain ⟨cur, t, hc, _⟩ := (h.each e he).blk i hf; exact lt_of_heap hc
theorem RefAt.kept {S : List Nat} {w w' : World} {qb : Nat} {a : Option Addr} {cap : Nat} {Y : List Ent} (h : RefAt w qb a cap Y) (k : Kept S w w') (hS : ∀ i ∈ rdom qb a Y, i ∉ S) : RefAt w' qb a cap Y :=
  ⟨k.at h.blk (hS _ (rdom_mem.2 (.inl rfl))), row_kept h.row k (fun _ hi => hS _ (rdom_mem.2 (.inr (.inl hi)))), fun e he => ⟨(h.each e he).1.kept k (fun _ hi => hS _ (rdom_mem.2 (.inr (.inr ⟨e, he, .inl hi⟩)))), (h.each e he).2.kept k (fun _ hi => hS _ (rdom_mem.2 (.inr (.inr ⟨e, he, .inr hi⟩))))⟩, h.few, h.inv, h.uniq⟩
theorem RefAt.keptN {w w' : World} {qb : Nat} {a : Option Addr} {cap : Nat} {Y : List Ent} (h : RefAt w qb a cap Y) (k : Kept [] w w') : RefAt w' qb a cap Y := h.kept k (by simp)
theorem RefAt.c0 {w : World} {qb : Nat} {a : Option Addr} {cap : Nat} {Y : List Ent} (h : RefAt w qb a cap Y) : w.cell? ⟨qb, 0, none⟩ = some (.slice a Y.length cap) := by rw [cell_at h.blk]; rfl
/-- The cells of an entry. -/
structure RC (w : World) (g o : Nat) (e : Ent) : Prop where
  c0 : w.cell? ⟨g, o, none⟩ = some (.string ⟨e.1.toArray⟩)
  c1 : w.cell? ⟨g, o + 1, none⟩ = some (.string ⟨e.2.x.kind.toArray⟩)
  c2 : w.cell? ⟨g, o + 2, none⟩ = some (.string ⟨e.2.x.user.toArray⟩)
  c3 : w.cell? ⟨g, o + 3, none⟩ = some (.string ⟨e.2.x.by_.toArray⟩)
  c4 : w.cell? ⟨g, o + 4, none⟩ = some (.slice e.2.sa e.2.x.steps.length e.2.sc)
  c5 : w.cell? ⟨g, o + 5, none⟩ = some (.int .i64 e.2.x.until_)
  c6 : w.cell? ⟨g, o + 6, none⟩ = some (.int .i64 e.2.x.step)
  c7 : w.cell? ⟨g, o + 7, none⟩ = some (.int .i64 e.2.x.count)
  c8 : w.cell? ⟨g, o + 8, none⟩ = some (.slice e.2.aa e.2.x.appr.length e.2.ac)
  c9 : w.cell? ⟨g, o + 9, none⟩ = some (.bool e.2.x.rej)
  c10 : w.cell? ⟨g, o + 10, none⟩ = some (.bool e.2.x.tak)
theorem RefAt.get {w : World} {qb : Nat} {a : Option Addr} {cap : Nat} {Y : List Ent} (h : RefAt w qb a cap Y) {i : Nat} (hi : i < Y.length) : ∃ g cur, a = some ⟨g, 0, none⟩ ∧ w.heap[g]? = some (.cells cur 75 (0, 0)) ∧ cur.size = cap * 11 ∧ Y.length ≤ cap ∧ RC w g (i * 11) Y[i] := by
  obtain ⟨g, cur, rfl, hg, hn, hc, hcs, htk⟩ := row_some h.row (by omega)
  obtain ⟨b, off, e, hb, hcell⟩ := (row_list encROk h.row).at hi
  injection e with e; injection e with e1 e2
  subst e1; subst e2
  rw [Nat.zero_add] at hcell
  exact ⟨g, cur, rfl, hg, hcs, hn, by have := hcell 0 _ rfl; rwa [Nat.add_zero] at this, hcell 1 _ rfl, hcell 2 _ rfl, hcell 3 _ rfl, hcell 4 _ rfl, hcell 5 _ rfl, hcell 6 _ rfl, hcell 7 _ rfl, hcell 8 _ rfl, hcell 9 _ rfl, hcell 10 _ rfl⟩
def eqK (k : Str) (e : Ent) : Bool := e.1 == k
theorem look_idx {Y : List Ent} {k : Str} : (idx (eqK k) Y = -1 ∧ alook (absR Y) k = none) ∨ ∃ i, ∃ h : i < Y.length, idx (eqK k) Y = i ∧ Y[i].1 = k ∧ alook (absR Y) k = some Y[i].2.x := by
  rcases idx_split (p := eqK k) (l := Y) with ⟨e, hn⟩ | ⟨i, hi, e, hp, hn⟩
  · left
    refine ⟨e, alook_none.2 (fun p hp hk => ?_)⟩
    obtain ⟨q, hq, rfl⟩ := List.mem_map.1 hp
    have := hn q hq
    unfold eqK at this
    simp at this
    exact this hk
  · right
    refine ⟨i, hi, e, by unfold eqK at hp; simpa using hp, ?_⟩
    have hk : Y[i].1 = k := by unfold eqK at hp; simpa using hp
    clear e hp
    induction Y generalizing i with
    | nil => simp at hi
    | cons y r ih =>
      show alook ((y.1, y.2.x) :: absR r) k = _
      rw [alook_cons]
      cases i with
      | zero => simp at hk; rw [if_pos hk]; rfl
      | succ i =>
        have h0 := hn 0 (by omega) (by simp)
        unfold eqK at h0
        simp at h0
        rw [if_neg h0]
        simp only [List.getElem_cons_succ] at hk ⊢
        exact ih i (by simpa using hi) (fun j hj hjl => by have := hn (j + 1) (by omega) (by simp; omega); simpa using this) hk
set_option maxHeartbeats 1000000 in
theorem find_any {w : World} {qb : Nat} {a : Option Addr} {cap : Nat} {Y : List Ent} (h : RefAt w qb a cap Y) (s : ByteArray) :
    Calls Try.prog 38 #[.pointer (some ⟨qb, 0, none⟩), .string s] w fun e w' => e = .returned (.int .i64 (idx (eqK s.data.toList) Y)) ∧ w = w' := by
  have c0 := h.c0
  have hfew := h.few
  go_enter Try.func38, Try.ntmps38
  go_wp2_with fail
  go_loop [5] (fun i => ∃ k : Nat, k ≤ Y.length ∧ i = .int .i64 k ∧ NoneTo (eqK s.data.toList) Y k) (fun i => Y.length - (intOf i).toNat)
  case atStart => exact ⟨0, Nat.zero_le _, rfl, NoneTo.zero _ _⟩
  case round =>
    obtain ⟨k, hk, rfl, hn⟩ := hrel
    by_cases hlt : k < Y.length
    · obtain ⟨g, cur, rfl, hg, hcs, hnc, hc⟩ := h.get hlt
      have d0 := hc.c0
      have hb1 : (0 : Int) ≤ k := by omega
      have hb2 : (k : Int) < Y.length := by omega
      cases hp : eqK s.data.toList Y[k]
      · have e1 : (Y[k].1 == s.toList) = false := by rw [ByteArray.toList_eq]; exact hp
        have HN := hid (hn.next hlt hp)
        clear hp hc hg
        go_wp2_with fail
        go_round
        case rel => exact ⟨k + 1, by omega, by go_num, HN.out⟩
        case measure => simp [intOf]; omega
      · have e1 : (Y[k].1 == s.toList) = true := by rw [ByteArray.toList_eq]; exact hp
        have HN := hid (idx_yes hn hlt hp)
        clear hp hc hg
        go_wp2_with fail
        go_ret
        exact ⟨ret_int HN.out.symm, rfl⟩
    · have hx := hid (idx_no (hn.all (by omega)))
      go_wp2_with fail
      go_ret
      exact ⟨ret_int hx.out.symm, rfl⟩
set_option maxHeartbeats 1000000 in
theorem within_any {w : World} {a : Option Addr} {cap : Nat} {l : List Str} (h : StrsAt w a l) (s : ByteArray) :
    Calls Try.prog 52 #[.slice a l.length cap, .string s] w fun e w' => e = .returned (.bool (hasS l s.data.toList)) ∧ w = w' := by
  have hf := h.few
  unfold maxLen at hf
  go_enter Try.func52, Try.ntmps52
  go_wp2_with fail
  go_loop [5] (fun i => ∃ k : Nat, k ≤ l.length ∧ i = .int .i64 k ∧ NoneTo (eqS s.data.toList) l k) (fun i => l.length - (intOf i).toNat)
  case atStart => exact ⟨0, Nat.zero_le _, rfl, NoneTo.zero _ _⟩
  case round =>
    obtain ⟨k, hk, rfl, hn⟩ := hrel
    by_cases hlt : k < l.length
    · obtain ⟨b, off, rfl, hb, hc⟩ := h.get hlt
      unfold sV at hc
      have hb1 : (0 : Int) ≤ k := by omega
      have hb2 : (k : Int) < l.length := by omega
      cases hp : eqS s.data.toList l[k]
      · obtain ⟨e1, e2⟩ := str_eq _ _ _ hp
        have HP := hid hp
        clear hp
        go_wp2_with fail
        go_round
        case rel => exact ⟨k + 1, by omega, by go_num, hn.next hlt HP.out⟩
        case measure => simp [intOf]; omega
      · obtain ⟨e1, e2⟩ := str_eq _ _ _ hp
        have HP := hid hp
        clear hp
        go_wp2_with fail
        go_ret
        exact ⟨ret_bool (any_yes hlt HP.out).symm, rfl⟩
    · have hx := hid (any_no hn (by omega))
      go_wp2_with fail
      go_ret
      exact ⟨ret_bool hx.out.symm, rfl⟩
set_option maxHeartbeats 2000000 in
set_option maxRecDepth 100000 in
theorem rword_st (w : World) (e : Ent) (now : Int) :
    Calls Try.prog 39 #[.agg #[.string ⟨e.1.toArray⟩, .string ⟨e.2.x.kind.toArray⟩, .string ⟨e.2.x.user.toArray⟩, .string ⟨e.2.x.by_.toArray⟩, .slice e.2.sa e.2.x.steps.length e.2.sc, .int .i64 e.2.x.until_, .int .i64 e.2.x.step, .int .i64 e.2.x.count, .slice e.2.aa e.2.x.appr.length e.2.ac, .bool e.2.x.rej, .bool e.2.x.tak], .int .i64 now] w fun e' w' => e' = .returned (.string ⟨(stS e.2.x (lim now)).toArray⟩) ∧ Kept [] w w' := by
  have HE := hid (show stS e.2.x (lim now) = if e.2.x.step = e.2.x.steps.length then sApproved else if e.2.x.rej then sRejected else if e.2.x.until_ ≤ lim now then sExpired else sPending from rfl)
  have HK := hid ((Kept.refl [] w).alloc (.cells #[.string ⟨e.1.toArray⟩, .string ⟨e.2.x.kind.toArray⟩, .string ⟨e.2.x.user.toArray⟩, .string ⟨e.2.x.by_.toArray⟩, .slice e.2.sa e.2.x.steps.length e.2.sc, .int .i64 e.2.x.until_, .int .i64 e.2.x.step, .int .i64 e.2.x.count, .slice e.2.aa e.2.x.appr.length e.2.ac, .bool e.2.x.rej, .bool e.2.x.tak] 75 (0, 0)))
  obtain ⟨R, HR⟩ : ∃ R, Hid (stS e.2.x (lim now) = R) := ⟨_, hid rfl⟩
  rw [HR.out] at HE ⊢
  have hlim := lim_bd now
  by_cases h1 : e.2.x.step = e.2.x.steps.length
  · have hb : ((e.2.x.step : Int) == (e.2.x.steps.length : Int)) = true := by rw [beq_iff_eq]; omega
    have E := hid (show R = sApproved by rw [HE.out, if_pos h1])
    clear h1
    go_enter Try.func39, Try.ntmps39
    go_wp2_with fail
    go_ret
    rw [E.out]
    exact ⟨rfl, HK.out⟩
  · have hb : ((e.2.x.step : Int) == (e.2.x.steps.length : Int)) = false := by rw [beq_eq_false_iff_ne]; omega
    have E1 := hid (show R = if e.2.x.rej then sRejected else if e.2.x.until_ ≤ lim now then sExpired else sPending by rw [HE.out, if_neg h1])
    clear h1
    by_cases hr : e.2.x.rej = true
    · have E := hid (show R = sRejected by rw [E1.out, if_pos hr])
      go_enter Try.func39, Try.ntmps39
      go_wp2_with fail
      go_ret
      rw [E.out]
      exact ⟨rfl, by have := HK.out; simp only [hr] at this; exact this⟩
    · have hr' : e.2.x.rej = false := by simpa using hr
      clear hr
      have HK2 := hid (by have := HK.out; simp only [hr'] at this; exact this)
      by_cases h2 : e.2.x.until_ ≤ lim now
      · have E := hid (show R = sExpired by rw [E1.out, hr', if_neg (by simp), if_pos h2])
        go_enter Try.func39, Try.ntmps39
        go_wp2_with fail
        go_quiet ((go_at_call 50; exact Calls.quiet_of_same ((instant_any _ _).mono fun _ _ h => ⟨h.1, h.2.symm⟩)))
        go_wp2_with fail
        go_ret
        rw [E.out]
        exact ⟨rfl, HK2.out.drewN _⟩
      · have E := hid (show R = sPending by rw [E1.out, hr', if_neg (by simp), if_neg h2])
        go_enter Try.func39, Try.ntmps39
        go_wp2_with fail
        go_quiet ((go_at_call 50; exact Calls.quiet_of_same ((instant_any _ _).mono fun _ _ h => ⟨h.1, h.2.symm⟩)))
        go_wp2_with fail
        go_ret
        rw [E.out]
        exact ⟨rfl, HK2.out.drewN _⟩
end Go.Proofs.Ytionejokdfgmhaa
