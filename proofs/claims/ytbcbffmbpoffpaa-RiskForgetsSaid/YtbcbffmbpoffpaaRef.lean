/- The reference's profiles in memory; New, at. -/
import Derived.Test.YtbcbffmbpoffpaaProf2
namespace Go.Proofs.Ytbcbffmbpoffpaa
open Go.RowKit Go.Maps

/-- A profile as it lies: the user, the lists' places, the instant. -/
structure Raw where
  u : Str
  a1 : Option Addr
  n1 : Nat
  c1 : Nat
  a2 : Option Addr
  n2 : Nat
  c2 : Nat
  t : Int
def encR (x : Raw) : List Value := [sV x.u, .slice x.a1 x.n1 x.c1, .slice x.a2 x.n2 x.c2, .int .i64 x.t]
theorem encROk : Enc Try.prog 74 4 72 encR :=
  ⟨fun _ => rfl, fun x v hv => by simp [encR] at hv; rcases hv with rfl | rfl | rfl | rfl <;> rfl, by omega, by omega, by
    obtain ⟨i0, hi, h1, h2, h3⟩ := info_parts (show (Try.prog.info? 74).map (fun i => (i.zero, i.size, i.bytes)) = some (some (.agg #[.string ⟨#[]⟩, .slice none 0 0, .slice none 0 0, .int .i64 0]), 4, 72) by kernel_rfl)
    exact ⟨i0, _, hi, h1, h2, h3, rfl⟩⟩
/-- A raw profile is a user's profile. -/
def IsP (w : World) (x : Raw) (e : Str × Prof) : Prop := x.u = e.1 ∧ x.n1 = e.2.dev.length ∧ x.n2 = e.2.pl.length ∧ x.t = e.2.at_ ∧ StrsB w x.a1 e.2.dev ∧ StrsB w x.a2 e.2.pl
theorem IsP.kept {S : List Nat} {w w' : World} {x : Raw} {e : Str × Prof} (h : IsP w x e) (k : Kept S w w') (hS : NoStr w S) : IsP w' x e :=
  ⟨h.1, h.2.1, h.2.2.1, h.2.2.2.1, h.2.2.2.2.1.kept k hS, h.2.2.2.2.2.kept k hS⟩
structure Like (w : World) (X : List Raw) (U : Users) : Prop where
  len : X.length = U.length
  el : ∀ i (h : i < X.length) (h' : i < U.length), IsP w X[i] U[i]
theorem Like.kept {S : List Nat} {w w' : World} {X : List Raw} {U : Users} (h : Like w X U) (k : Kept S w w') (hS : NoStr w S) : Like w' X U :=
  ⟨h.len, fun i h1 h2 => (h.el i h1 h2).kept k hS⟩
theorem Like.set {w : World} {X : List Raw} {U : Users} (h : Like w X U) {k : Nat} {x : Raw} {e : Str × Prof} (hx : IsP w x e) : Like w (X.set k x) (U.set k e) := by
  refine ⟨by simp [h.len], fun i h1 h2 => ?_⟩
  rw [List.getElem_set, List.getElem_set]
  split
  · exact hx
  · exact h.el i (by simpa using h1) (by simpa using h2)
theorem Like.push {w : World} {X : List Raw} {U : Users} (h : Like w X U) {x : Raw} {e : Str × Prof} (hx : IsP w x e) : Like w (X ++ [x]) (U ++ [e]) := by
  have hl := h.len
  refine ⟨by simp [hl], fun i h1 h2 => ?_⟩
  by_cases hi : i < X.length
  · rw [List.getElem_append_left hi, List.getElem_append_left (by omega)]
    exact h.el i hi (by omega)
  · have e1 : i = X.length := by simp at h1; omega
    subst e1
    rw [List.getElem_append_right (by omega), List.getElem_append_right (by omega)]
    simpa [hl] using hx
/-- The reference in memory: its list's row. -/
structure RefR (w : World) (qb : Nat) (a : Option Addr) (cap : Nat) (X : List Raw) : Prop where
  blk : w.heap[qb]? = some (.cells #[.slice a X.length cap, .bool true] 66 (0, 0))
  row : w.ownsRow 0 74 4 (.slice a X.length cap) X.length (rowV encR X)
theorem RefR.nostr {w : World} {qb : Nat} {a : Option Addr} {cap : Nat} {X : List Raw} (h : RefR w qb a cap X) : NoStr w (qb :: fp a) := by
  intro i hi cur hc
  rcases List.mem_cons.1 hi with rfl | hi
  · rw [h.blk] at hc
    injection hc with hc; injection hc with _ hc _
    exact absurd hc (by decide)
  · obtain ⟨cur2, hb⟩ := row_blk h.row i hi
    rw [hb] at hc
    injection hc with hc; injection hc with _ hc _
    exact absurd hc (by decide)
theorem RefR.ne {w : World} {qb : Nat} {a : Option Addr} {cap : Nat} {X : List Raw} (h : RefR w qb a cap X) : qb ∉ fp a := by
  intro hi
  obtain ⟨cur2, hb⟩ := row_blk h.row qb hi
  rw [h.blk] at hb
  injection hb with hb; injection hb with _ hb _
  exact absurd hb (by decide)
theorem RefR.kept {S : List Nat} {w w' : World} {qb : Nat} {a : Option Addr} {cap : Nat} {X : List Raw} (h : RefR w qb a cap X) (k : Kept S w w') (h1 : qb ∉ S) (h2 : ∀ i ∈ fp a, i ∉ S) : RefR w' qb a cap X :=
  ⟨k.at h.blk h1, row_kept h.row k h2⟩
/-- The reference's profiles, on the way from w0 on. -/
structure RefAt (w0 w : World) (qb : Nat) (a0 : Option Addr) (a : Option Addr) (cap : Nat) (X : List Raw) (U : Users) : Prop where
  raw : RefR w qb a cap X
  like : Like w X U
  kept : Kept (qb :: fp a0) w0 w
  new : ∀ i ∈ fp a, i ∈ fp a0 ∨ w0.heap.size ≤ i
theorem RefAt.start {w : World} {qb : Nat} {a : Option Addr} {cap : Nat} {X : List Raw} {U : Users} (h : RefR w qb a cap X) (hl : Like w X U) : RefAt w w qb a a cap X U := ⟨h, hl, Kept.refl _ _, fun _ hi => .inl hi⟩
theorem RefAt.later {w0 w w' : World} {qb : Nat} {a0 a : Option Addr} {cap : Nat} {X : List Raw} {U : Users} (h : RefAt w0 w qb a0 a cap X U) (k : Kept [] w w') : RefAt w0 w' qb a0 a cap X U :=
  ⟨h.raw.kept k (by simp) (by simp), h.like.kept k (nostr_nil w), h.kept.step k (by simp), h.new⟩
/-- What stands in the cells. -/
theorem RefR.head {w : World} {qb : Nat} {a : Option Addr} {cap : Nat} {X : List Raw} (h : RefR w qb a cap X) : w.cell? ⟨qb, 0, none⟩ = some (.slice a X.length cap) ∧ w.cell? ⟨qb, 1, none⟩ = some (.bool true) :=
  ⟨by rw [cell_at h.blk]; rfl, by rw [cell_at h.blk]; rfl⟩
theorem RefR.get {w : World} {qb : Nat} {a : Option Addr} {cap : Nat} {X : List Raw} (h : RefR w qb a cap X) {k : Nat} (hk : k < X.length) : ∃ g, a = some ⟨g, 0, none⟩ ∧ g < w.heap.size ∧ w.cell? ⟨g, k * 4, none⟩ = some (.string ⟨X[k].u.toArray⟩) ∧ w.cell? ⟨g, k * 4 + 1, none⟩ = some (.slice X[k].a1 X[k].n1 X[k].c1) ∧ w.cell? ⟨g, k * 4 + 2, none⟩ = some (.slice X[k].a2 X[k].n2 X[k].c2) ∧ w.cell? ⟨g, k * 4 + 3, none⟩ = some (.int .i64 X[k].t) ∧ (∀ j, w.frozen? ⟨g, j, none⟩ = false) := by
  obtain ⟨g, cur, rfl, hg, _⟩ := row_some h.row (by omega)
  refine ⟨g, rfl, lt_of_heap hg, ?_, ?_, ?_, ?_, fun j => free_at hg j⟩
  · exact row_cell h.row (by have := rowV_get encROk X k 0 hk (by omega); simpa [encR, sV] using this)
  · exact row_cell h.row (by have := rowV_get encROk X k 1 hk (by omega); simpa [encR, sV] using this)
  · exact row_cell h.row (by have := rowV_get encROk X k 2 hk (by omega); simpa [encR, sV] using this)
  · exact row_cell h.row (by have := rowV_get encROk X k 3 hk (by omega); simpa [encR, sV] using this)
theorem rowR_set (X : List Raw) (k j : Nat) (hk : k < X.length) (hj : j < 4) (x : Raw) (v : Value) (he : encR x = (encR X[k]).set j v) : rowV encR (X.set k x) = (rowV encR X).set (k * 4 + j) v := by
  induction X generalizing k with
  | nil => simp at hk
  | cons y r ih =>
    cases k with
    | zero =>
      show encR x ++ rowV encR r = (encR y ++ rowV encR r).set (0 * 4 + j) v
      rw [List.set_append, if_pos (by rw [encROk.len]; omega), he]
      simp
    | succ k =>
      show encR y ++ rowV encR (r.set k x) = (encR y ++ rowV encR r).set ((k + 1) * 4 + j) v
      rw [List.set_append, if_neg (by rw [encROk.len]; omega), encROk.len, show (k + 1) * 4 + j - 4 = k * 4 + j by omega, ih k (by simpa using hk) he]
/-- A store into a field of one of the profiles. -/
theorem RefAt.store {w0 w : World} {qb g : Nat} {a0 : Option Addr} {cap : Nat} {X : List Raw} {U : Users} (h : RefAt w0 w qb a0 (some ⟨g, 0, none⟩) cap X U) {k j : Nat} (hk : k < X.length) (hj : j < 4) {x : Raw} {v : Value} (he : encR x = (encR X[k]).set j v) {e : Str × Prof} (hx : IsP w x e) :
    RefAt w0 (w.setCell ⟨g, k * 4 + j, none⟩ v) qb a0 (some ⟨g, 0, none⟩) cap (X.set k x) (U.set k e) := by
  have hs : Kept [g] w (w.setCell ⟨g, k * 4 + j, none⟩ v) := (Kept.refl [g] w).setCell (.inl (by simp)) _
  have hns : NoStr w [g] := fun i hi => h.raw.nostr i (by simp at hi; subst hi; simp [fp])
  have hr := (h.raw.row.stored (k * 4 + j) v).1
  rw [← rowR_set X k j hk hj x v he] at hr
  have hne := h.raw.ne
  refine ⟨⟨?_, by simpa using hr⟩, (h.like.kept hs hns).set (hx.kept hs hns), h.kept.setCell ?_ _, h.new⟩
  · rw [List.length_set]; exact hs.at h.raw.blk (by simpa [fp] using hne)
  · rcases h.new g (by simp [fp]) with h1 | h1
    · exact .inl (by simp [h1])
    · exact .inr h1

/-- Where a user stands. -/
def atB (u : Str) (e : Str × Prof) : Bool := e.1 == u
set_option maxHeartbeats 400000 in
theorem rat_any {w : World} {qb : Nat} {a : Option Addr} {cap : Nat} {X : List Raw} {U : Users} (h : RefR w qb a cap X) (hl : Like w X U) (hlen : U.length ≤ 256) (s : ByteArray) :
    Calls Try.prog 39 #[.pointer (some ⟨qb, 0, none⟩), .string s] w fun e w' => e = .returned (.int .i64 (idx (atB s.data.toList) U)) ∧ w = w' := by
  obtain ⟨c0, c1⟩ := h.head
  have hll := hl.len
  go_enter Try.func39, Try.ntmps39
  go_wp2_with fail
  go_loop [5] (fun i => ∃ k : Nat, k ≤ X.length ∧ i = .int .i64 k ∧ NoneTo (atB s.data.toList) U k) (fun i => X.length - (intOf i).toNat)
  case atStart => exact ⟨0, Nat.zero_le _, rfl, NoneTo.zero _ _⟩
  case round =>
    obtain ⟨k, hk, rfl, hn⟩ := hrel
    by_cases hlt : k < X.length
    · obtain ⟨g, rfl, hg, d0, d1, d2, d3, _⟩ := h.get hlt
      have hu := (hl.el k hlt (by omega)).1
      have hb1 : (0 : Int) ≤ k := by omega
      have hb2 : (k : Int) < X.length := by omega
      have hku : k < U.length := by omega
      clear d1 d2 d3
      cases hp : atB s.data.toList (U[k]'hku)
      · have he : (X[k].u == s.toList) = false := by rw [hu, ByteArray.toList_eq]; exact hp
        have HP := hid hp
        clear hp hu hll
        go_wp2_with fail
        go_round
        case rel => exact ⟨k + 1, by omega, by go_num, hn.next hku HP.out⟩
        case measure => simp [intOf]; omega
      · have he : (X[k].u == s.toList) = true := by rw [hu, ByteArray.toList_eq]; exact hp
        have HP := hid hp
        clear hp hu hll
        go_wp2_with fail
        go_ret
        exact ⟨ret_int (by rw [idx_yes hn hku HP.out]), rfl⟩
    · have hx := hid (idx_no (hn.all (by omega)))
      clear hll
      go_wp2_with fail
      go_ret
      exact ⟨ret_int hx.out.symm, rfl⟩
set_option maxHeartbeats 400000 in
theorem new_ref (w : World) :
    Calls Try.prog 17 #[] w fun e w' => e = .returned (.pointer (some ⟨w.heap.size, 0, none⟩)) ∧ RefR w' w.heap.size none 0 [] ∧ Like w' [] [] ∧ Kept [] w w' := by
  go_enter Try.func17, Try.ntmps17
  go_wp2
  go_ret
  refine ⟨rfl, ⟨?_, World.ownsRow_nil _ _ _ _⟩, ⟨rfl, fun i h => by simp at h⟩, (Kept.refl [] w).alloc _⟩
  exact heap_alloc_new w _
end Go.Proofs.Ytbcbffmbpoffpaa
