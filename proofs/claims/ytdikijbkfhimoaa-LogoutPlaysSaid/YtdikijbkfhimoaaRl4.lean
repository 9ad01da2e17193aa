/- Due of the reference, plainly; a note is written in memory. -/
import Derived.Test.YtdikijbkfhimoaaRl3
namespace Go.Proofs.Ytdikijbkfhimoaa
open Go.RowKit Go.Maps

section
variable {α : Type} {f : α → α} {l : List α} {k : Nat}
/-- The first k have been turned. -/
def mapTo (f : α → α) (l : List α) (k : Nat) : List α := (l.take k).map f ++ l.drop k
theorem mapTo_zero (f : α → α) (l : List α) : mapTo f l 0 = l := by simp [mapTo]
theorem mapTo_all (h : l.length ≤ k) : mapTo f l k = l.map f := by simp [mapTo, List.take_of_length_le h, List.drop_of_length_le h]
theorem mapTo_len (f : α → α) (l : List α) (k : Nat) : (mapTo f l k).length = l.length := by simp [mapTo]; omega
theorem mapTo_at (f : α → α) (l : List α) (k j : Nat) (hj : j < l.length) : (mapTo f l k)[j]'(by rw [mapTo_len]; exact hj) = if j < k then f l[j] else l[j] := by
  unfold mapTo
  by_cases h : j < k
  · rw [if_pos h, List.getElem_append_left (by simp; omega), List.getElem_map, List.getElem_take]
  · rw [if_neg h, List.getElem_append_right (by simp; omega), List.getElem_drop]
    congr 1
    simp
    omega
theorem mapTo_get (hk : k < l.length) : (mapTo f l k)[k]'(by rw [mapTo_len]; exact hk) = l[k] := by rw [mapTo_at f l k k hk, if_neg (by omega)]
theorem mapTo_next (hk : k < l.length) : (mapTo f l k).set k (f l[k]) = mapTo f l (k + 1) := by
  apply List.ext_getElem (by rw [List.length_set, mapTo_len, mapTo_len])
  intro j h1 h2
  rw [mapTo_len] at h2
  rw [List.getElem_set, mapTo_at f l (k + 1) j h2]
  by_cases e : k = j
  · subst e; rw [if_pos rfl, if_pos (by omega)]
  · rw [if_neg e, mapTo_at f l k j h2]
    by_cases h : j < k
    · rw [if_pos h, if_pos (by omega)]
    · rw [if_neg h, if_neg (by omega)]
theorem mapTo_same (hk : k < l.length) (h : f l[k] = l[k]) : mapTo f l (k + 1) = mapTo f l k := by
  rw [← mapTo_next hk, h]
  apply List.ext_getElem (by rw [List.length_set])
  intro j h1 h2
  rw [List.getElem_set]
  by_cases e : k = j
  · subst e; rw [if_pos rfl, mapTo_get hk]
  · rw [if_neg e]
end
def rripe (delay : Nat) (now : Int) (r : RN) : Bool := ripe delay r.begun now (r.state, r.failed)
def rdueN (delay : Nat) (now : Int) (r : RN) : RN := if rripe delay now r = true then { r with state := 1 } else r
def rdueQ (delay : Nat) (now : Int) (y : RQ) : RQ := { y with l := y.l.map (rdueN delay now) }
def rpairsL (delay : Nat) (now : Int) (s : Str) (l : List RN) : List Pr := (l.filter (rripe delay now)).map fun r => (s, r.c)
def rpairs (delay : Nat) (now : Int) (y : RQ) : List Pr := rpairsL delay now y.id y.l
theorem rdueN_c (delay : Nat) (now : Int) (r : RN) : (rdueN delay now r).c = r.c := by unfold rdueN; split <;> rfl
theorem rdueN_b (delay : Nat) (now : Int) (r : RN) : (rdueN delay now r).begun = r.begun := by unfold rdueN; split <;> rfl
theorem rdueN_f (delay : Nat) (now : Int) (r : RN) : (rdueN delay now r).failed = r.failed := by unfold rdueN; split <;> rfl
theorem rdueN_note (delay : Nat) (now : Int) (r : RN) : noteR (rdueN delay now r) = (r.c, dueN delay r.begun now (r.state, r.failed)) := by
  unfold rdueN noteR dueN
  cases h : rripe delay now r <;> (unfold rripe at h; simp [h])
theorem rdueN_no {delay : Nat} {now : Int} {r : RN} (h : rripe delay now r = false) : rdueN delay now r = r := by unfold rdueN; rw [h]; rfl
theorem rdueN_yes {delay : Nat} {now : Int} {r : RN} (h : rripe delay now r = true) : rdueN delay now r = { r with state := 1 } := by unfold rdueN; rw [h]; rfl
theorem rpairsL_snoc (delay : Nat) (now : Int) (s : Str) (l : List RN) {k : Nat} (hk : k < l.length) : rpairsL delay now s (l.take (k + 1)) = rpairsL delay now s (l.take k) ++ if rripe delay now l[k] = true then [(s, l[k].c)] else [] := by
  unfold rpairsL
  rw [List.take_succ_eq_append_getElem hk, List.filter_append, List.map_append]
  congr 1
  cases h : rripe delay now l[k] <;> simp [h]
theorem rpairs_len (delay : Nat) (now : Int) (s : Str) (l : List RN) : (rpairsL delay now s l).length ≤ l.length := by
  unfold rpairsL; rw [List.length_map]; exact List.length_filter_le _ _
theorem rall_len (delay : Nat) (now : Int) : ∀ (Y : List RQ), (∀ y ∈ Y, y.l.length ≤ 256) → (Y.flatMap (rpairs delay now)).length ≤ Y.length * 256
  | [], _ => by simp
  | y :: Y, h => by
    have ih := rall_len delay now Y (fun z hz => h z (List.mem_cons_of_mem _ hz))
    have h1 := rpairs_len delay now y.id y.l
    have h2 := h y List.mem_cons_self
    rw [List.flatMap_cons, List.length_append, List.length_cons]
    show (rpairsL delay now y.id y.l).length + _ ≤ _
    omega
theorem rall_snoc (delay : Nat) (now : Int) (Y : List RQ) {i : Nat} (hi : i < Y.length) : (Y.take (i + 1)).flatMap (rpairs delay now) = (Y.take i).flatMap (rpairs delay now) ++ rpairsL delay now Y[i].id Y[i].l := by
  rw [List.take_succ_eq_append_getElem hi, List.flatMap_append, List.flatMap_singleton]; rfl
/-! ### the relation -/
theorem RelN.due {x : Ses} {l : List RN} (h : RelN x l) (delay : Nat) (now : Int) : RelN (dueS delay now x) (l.map (rdueN delay now)) := by
  refine ⟨?_, fun r hr => ?_, ?_⟩
  · rw [List.map_map]
    have e : l.map (noteR ∘ rdueN delay now) = (l.map noteR).map fun q => (q.1, dueN delay x.1 now q.2) := by
      rw [List.map_map]
      apply List.map_congr_left
      intro r hr
      show noteR (rdueN delay now r) = _
      rw [rdueN_note, h.beg r hr]
      rfl
    rw [e]
    exact h.perm.map _
  · obtain ⟨r0, h0, rfl⟩ := List.mem_map.1 hr
    rw [rdueN_b]; exact h.beg r0 h0
  · rw [List.pairwise_map]
    exact h.srt.imp (fun {a b} hab => by rw [rdueN_c, rdueN_c]; exact hab)
theorem Rel.due {U : Log} {Y : List RQ} (h : Rel U Y) (delay : Nat) (now : Int) : Rel (dueU delay now U) (Y.map (rdueQ delay now)) := by
  refine ⟨?_, ?_, fun z hz => ?_⟩
  · unfold dueU
    rw [List.map_map, List.map_map]
    exact h.perm
  · rw [List.pairwise_map]; exact h.srt
  · obtain ⟨y, hy, rfl⟩ := List.mem_map.1 hz
    obtain ⟨x, hx, hr⟩ := h.each y hy
    refine ⟨dueS delay now x, ?_, hr.due delay now⟩
    show alook (dueU delay now U) y.id = _
    rw [look_dueU, hx]; rfl
theorem rpairsL_mem {delay : Nat} {now : Int} {s : Str} {l : List RN} {p : Pr} : p ∈ rpairsL delay now s l ↔ p.1 = s ∧ ∃ r ∈ l, r.c = p.2 ∧ rripe delay now r = true := by
  unfold rpairsL
  rw [List.mem_map]
  constructor
  · rintro ⟨r, hr, rfl⟩
    obtain ⟨h1, h2⟩ := List.mem_filter.1 hr
    exact ⟨rfl, r, h1, rfl, h2⟩
  · rintro ⟨e, r, h1, h2, h3⟩
    exact ⟨r, List.mem_filter.2 ⟨h1, h3⟩, by rw [← e, h2]⟩
theorem rdue_is {most delay : Nat} {now : Int} {U : Log} {Y : List RQ} (h : Rel U Y) (hg : Good most delay U) : Due delay now U (Y.flatMap (rpairs delay now)) := by
  refine ⟨?_, fun p => ?_⟩
  · rw [List.pairwise_flatMap]
    refine ⟨fun y hy => ?_, h.srt.imp_of_mem fun {y z} _ _ hyz p hp q hq => ?_⟩
    · obtain ⟨x, hx, hr⟩ := h.each y hy
      unfold rpairs rpairsL
      rw [List.pairwise_map]
      exact (hr.srt.filter _).imp (fun {a b} hab => .inr ⟨rfl, hab⟩)
    · have h1 := (rpairsL_mem.1 hp).1
      have h2 := (rpairsL_mem.1 hq).1
      left; rw [h1, h2]; exact hyz
  · obtain ⟨s, c⟩ := p
    rw [List.mem_flatMap]
    constructor
    · rintro ⟨y, hy, hp⟩
      obtain ⟨e, r, hr, e2, h3⟩ := rpairsL_mem.1 hp
      simp only at e e2
      subst e; subst e2
      obtain ⟨x, hx, hn⟩ := h.each y hy
      refine ⟨x, hx, (r.state, r.failed), alook_of_mem (hg.each _ (alook_some hx)).uniq (hn.perm.mem_iff.1 (List.mem_map.2 ⟨r, hr, rfl⟩)), ?_⟩
      unfold rripe at h3
      rw [hn.beg r hr] at h3
      exact h3
    · rintro ⟨x, hx, n, hn, hr⟩
      have hm : s ∈ Y.map RQ.id := h.perm.mem_iff.2 (List.mem_map.2 ⟨(s, x), alook_some hx, rfl⟩)
      obtain ⟨y, hy, e⟩ := List.mem_map.1 hm
      subst e
      obtain ⟨x', hx', hr'⟩ := h.each y hy
      rw [hx] at hx'
      injection hx' with hx'
      subst hx'
      obtain ⟨r, h1, h2⟩ := List.mem_map.1 (hr'.perm.mem_iff.2 (alook_some hn))
      unfold noteR at h2
      injection h2 with e1 e2
      refine ⟨y, hy, rpairsL_mem.2 ⟨rfl, r, h1, e1, ?_⟩⟩
      unfold rripe
      rw [hr'.beg r h1, e2]
      exact hr
/-- What the notes of the reference may hold. -/
theorem Rel.fine {most delay : Nat} {U : Log} {Y : List RQ} (h : Rel U Y) (hg : Good most delay U) : ∀ y ∈ Y, ∀ r ∈ y.l, r.failed ≤ 8 ∧ (0 ≤ r.begun ∧ r.begun ≤ 1099511627776) ∧ Fine most (r.state, r.failed) := by
  intro y hy r hr
  obtain ⟨x, hx, hn⟩ := h.each y hy
  have hf := hg.each _ (alook_some hx)
  have hm := hf.note _ (hn.perm.mem_iff.1 (List.mem_map.2 ⟨r, hr, rfl⟩))
  refine ⟨?_, by rw [hn.beg r hr]; exact hf.at_, hm⟩
  have h1 := hm.le
  have h2 := hg.rm.2
  simp only [noteR] at h1
  omega
/-! ### in memory -/
section
variable {w w1 : World} {qb most delay : Nat} {a : Option Addr} {cap : Nat} {Y : List RQ}
theorem encQ_set {i : Nat} (hi : i < Y.length) {L : List RN} (hl : L.length = Y[i].l.length) : rowV encQ (Y.set i ⟨Y[i].id, L, Y[i].na, Y[i].nc⟩) = rowV encQ Y := by
  unfold rowV
  rw [List.flatMap_def, List.flatMap_def]
  congr 1
  apply List.ext_getElem (by simp)
  intro j h1 h2
  rw [List.getElem_map, List.getElem_map, List.getElem_set]
  by_cases e : i = j
  · subst e; rw [if_pos rfl]; unfold encQ; rw [hl]
  · rw [if_neg e]
theorem rdom_set {i : Nat} (hi : i < Y.length) {L : List RN} {j : Nat} : j ∈ rdom qb a (Y.set i ⟨Y[i].id, L, Y[i].na, Y[i].nc⟩) ↔ j ∈ rdom qb a Y := by
  rw [rdom_mem, rdom_mem]
  have : (∃ y ∈ Y.set i ⟨Y[i].id, L, Y[i].na, Y[i].nc⟩, j ∈ fp y.na) ↔ ∃ y ∈ Y, j ∈ fp y.na := by
    constructor
    · rintro ⟨y, hy, hj⟩
      obtain ⟨m, hm, rfl⟩ := List.getElem_of_mem hy
      rw [List.length_set] at hm
      rw [List.getElem_set] at hj
      by_cases e : i = m
      · subst e; rw [if_pos rfl] at hj; exact ⟨_, List.getElem_mem hi, hj⟩
      · rw [if_neg e] at hj; exact ⟨_, List.getElem_mem hm, hj⟩
    · rintro ⟨y, hy, hj⟩
      obtain ⟨m, hm, rfl⟩ := List.getElem_of_mem hy
      by_cases e : i = m
      · subst e; exact ⟨_, List.mem_iff_getElem.2 ⟨i, by rw [List.length_set]; exact hi, List.getElem_set_self _⟩, hj⟩
      · exact ⟨Y[m], List.mem_iff_getElem.2 ⟨m, by rw [List.length_set]; exact hm, by rw [List.getElem_set, if_neg e]⟩, hj⟩
  rw [this]
/-- The notes of a session have been written. -/
theorem RAt.turn (h : RAt w qb most delay a cap Y) {i : Nat} (hi : i < Y.length) {L : List RN} (hl : L.length = Y[i].l.length) (k : Kept (fp Y[i].na) w w1) (hr : w1.ownsRow 0 81 4 (.slice Y[i].na L.length Y[i].nc) L.length (rowV encN L)) : RAt w1 qb most delay a cap (Y.set i ⟨Y[i].id, L, Y[i].na, Y[i].nc⟩) := by
  obtain ⟨q1, q2, q3⟩ := h.apart3
  have hm := List.getElem_mem hi
  refine ⟨?_, ?_, fun y hy => ?_, ?_, h.rm, h.rd, by rw [List.length_set]; exact h.len, fun y hy => ?_⟩
  · rw [List.length_set]; exact k.at h.blk (q2 _ hm)
  · rw [List.length_set, encQ_set hi hl]; exact row_kept h.row k (q3 _ hm)
  · obtain ⟨m, hm2, rfl⟩ := List.getElem_of_mem hy
    rw [List.length_set] at hm2
    rw [List.getElem_set]
    by_cases e : i = m
    · subst e; rw [if_pos rfl]; exact hr
    · rw [if_neg e]
      refine row_kept (h.each _ (List.getElem_mem hm2)) k (fun j hj hj2 => ?_)
      rcases Nat.lt_or_ge i m with h1 | h1
      · exact List.pairwise_iff_getElem.1 h.apart i m hi hm2 h1 j hj2 hj
      · exact List.pairwise_iff_getElem.1 h.apart m i hm2 hi (by omega) j hj hj2
  · rw [List.pairwise_iff_getElem]
    intro p q hp hq hpq
    rw [List.length_set] at hp hq
    have h0 := List.pairwise_iff_getElem.1 h.apart p q hp hq hpq
    rw [List.getElem_set, List.getElem_set]
    by_cases e1 : i = p
    · subst e1; rw [if_pos rfl, if_neg (by omega)]; exact h0
    · rw [if_neg e1]
      by_cases e2 : i = q
      · subst e2; rw [if_pos rfl]; exact h0
      · rw [if_neg e2]; exact h0
  · rcases List.mem_or_eq_of_mem_set hy with hy | rfl
    · exact h.lens y hy
    · show L.length ≤ 256
      rw [hl]; exact h.lens _ hm
theorem setN_past (y : RN) (R : List Value) (i k : Nat) (v : Value) : (encN y ++ R).set ((i + 1) * 4 + k) v = encN y ++ R.set (i * 4 + k) v := by
  have hl : (encN y).length = 4 := rfl
  rw [List.set_append_right _ _ (by omega), hl, show (i + 1) * 4 + k - 4 = i * 4 + k by omega]
theorem rowN_set (l : List RN) (i : Nat) (hi : i < l.length) (r : RN) (c : Nat) (hc : c < 4) (v : Value) (he : encN r = (encN l[i]).set c v) : (rowV encN l).set (i * 4 + c) v = rowV encN (l.set i r) := by
  induction l generalizing i with
  | nil => simp at hi
  | cons y t ih =>
    have hl : (encN y).length = 4 := rfl
    cases i with
    | zero =>
      show (encN y ++ rowV encN t).set (0 * 4 + c) v = encN r ++ rowV encN t
      simp only [List.getElem_cons_zero] at he
      rw [he, Nat.zero_mul, Nat.zero_add, List.set_append_left _ _ (by omega)]
    | succ i =>
      show (encN y ++ rowV encN t).set ((i + 1) * 4 + c) v = encN y ++ rowV encN (t.set i r)
      rw [setN_past]
      congr 1
      exact ih i (by simpa using hi) (by simpa using he)
theorem rowN_set4 (l : List RN) (i : Nat) (hi : i < l.length) (r : RN) (v0 v1 v2 v3 : Value) (he : encN r = [v0, v1, v2, v3]) : (((((rowV encN l).set (i * 4 + 0) v0).set (i * 4 + 1) v1).set (i * 4 + 2) v2).set (i * 4 + 3) v3) = rowV encN (l.set i r) := by
  induction l generalizing i with
  | nil => simp at hi
  | cons y t ih =>
    cases i with
    | zero =>
      show _ = encN r ++ rowV encN t
      rw [he]
      rfl
    | succ i =>
      show (((((encN y ++ rowV encN t).set ((i + 1) * 4 + 0) v0).set ((i + 1) * 4 + 1) v1).set ((i + 1) * 4 + 2) v2).set ((i + 1) * 4 + 3) v3) = encN y ++ rowV encN (t.set i r)
      simp only [setN_past]
      exact congrArg (encN y ++ ·) (ih i (by simpa using hi))
/-- The state of a note has been written. -/
theorem RAt.state (h : RAt w qb most delay a cap Y) {i : Nat} (hi : i < Y.length) {b : Nat} (ha : Y[i].na = some ⟨b, 0, none⟩) {k : Nat} (hk : k < Y[i].l.length) (v : Int) :
    RAt (w.setCell ⟨b, k * 4 + 3, none⟩ (.int .i64 v)) qb most delay a cap (Y.set i ⟨Y[i].id, Y[i].l.set k ⟨Y[i].l[k].c, Y[i].l[k].failed, Y[i].l[k].begun, v⟩, Y[i].na, Y[i].nc⟩) := by
  have hr := h.each _ (List.getElem_mem hi)
  refine h.turn hi (by rw [List.length_set]) ((Kept.refl _ w).setCell (.inl (by rw [ha]; simp [fp])) _) ?_
  rw [List.length_set]
  rw [ha] at hr ⊢
  have h1 := (hr.stored (k * 4 + 3) (.int .i64 v)).1
  rwa [rowN_set Y[i].l k hk ⟨Y[i].l[k].c, Y[i].l[k].failed, Y[i].l[k].begun, v⟩ 3 (by omega) _ rfl] at h1
theorem RAt.note4 (h : RAt w qb most delay a cap Y) {i : Nat} (hi : i < Y.length) {b : Nat} (ha : Y[i].na = some ⟨b, 0, none⟩) {k : Nat} (hk : k < Y[i].l.length) (r : RN) (v0 v1 v2 v3 : Value) (he : encN r = [v0, v1, v2, v3]) :
    RAt ((((w.setCell ⟨b, k * 4, none⟩ v0).setCell ⟨b, k * 4 + 1, none⟩ v1).setCell ⟨b, k * 4 + 2, none⟩ v2).setCell ⟨b, k * 4 + 3, none⟩ v3) qb most delay a cap (Y.set i ⟨Y[i].id, Y[i].l.set k r, Y[i].na, Y[i].nc⟩) := by
  have hr := h.each _ (List.getElem_mem hi)
  refine h.turn hi (by rw [List.length_set]) (((((Kept.refl _ w).setCell (.inl (by rw [ha]; simp [fp])) _).setCell (.inl (by rw [ha]; simp [fp])) _).setCell (.inl (by rw [ha]; simp [fp])) _).setCell (.inl (by rw [ha]; simp [fp])) _) ?_
  rw [List.length_set]
  rw [ha] at hr ⊢
  have h1 := ((((hr.stored (k * 4 + 0) v0).1.stored (k * 4 + 1) v1).1.stored (k * 4 + 2) v2).1.stored (k * 4 + 3) v3).1
  rwa [rowN_set4 Y[i].l k hk r v0 v1 v2 v3 he] at h1
/-- A note of the record: its cells. -/
theorem RAt.note (h : RAt w qb most delay a cap Y) {i : Nat} (hi : i < Y.length) {k : Nat} (hk : k < Y[i].l.length) : ∃ b, Y[i].na = some ⟨b, 0, none⟩ ∧ b < w.heap.size ∧ w.cell? ⟨b, k * 4, none⟩ = some (sV Y[i].l[k].c) ∧ w.cell? ⟨b, k * 4 + 1, none⟩ = some (.int .i64 (Y[i].l[k].failed : Int)) ∧ w.cell? ⟨b, k * 4 + 2, none⟩ = some (.int .i64 Y[i].l[k].begun) ∧ w.cell? ⟨b, k * 4 + 3, none⟩ = some (.int .i64 Y[i].l[k].state) ∧ ∀ j, w.frozen? ⟨b, j, none⟩ = false := by
  have hr := h.each _ (List.getElem_mem hi)
  obtain ⟨g, cur, e, hg, _, _, _⟩ := row_some hr (by omega)
  have hx := hr
  rw [e] at hx
  exact ⟨g, e, lt_of_heap hg, row_cell hx (rowV_get encNOk _ k 0 hk (by omega)), row_cell hx (rowV_get encNOk _ k 1 hk (by omega)), row_cell hx (rowV_get encNOk _ k 2 hk (by omega)), row_cell hx (rowV_get encNOk _ k 3 hk (by omega)), fun j => free_at hg j⟩
end
end Go.Proofs.Ytdikijbkfhimoaa
