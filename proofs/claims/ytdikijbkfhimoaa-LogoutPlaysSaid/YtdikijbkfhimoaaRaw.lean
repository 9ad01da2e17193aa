/- A map from strings to whatever values: as a list of entries, each element read as itself. No program. -/
import Derived.Test.YtdikijbkfhimoaaBase
import Derived.Maps.OwnOps
import Derived.Maps.OwnSet
namespace Go.Proofs.Ytdikijbkfhimoaa
open Go.RowKit Go.Maps Go.WideShapes

/-- How an element reads: as itself. -/
def rawElem (v : Value) : Option (DataW Value × List MemPlace) := some (.held v, [])
theorem rawElem_inv {v : Value} {z : DataW Value × List MemPlace} (h : rawElem v = some z) : z = (.held v, []) := by injection h with h; exact h.symm

/-! ### lists of entries -/
abbrev REnt := List UInt8 × Value
def rlook (L : List REnt) (k : List UInt8) : Option Value := (L.find? (fun p => p.1 == k)).map (·.2)
def RUniq (L : List REnt) : Prop := L.Pairwise (fun p q => p.1 ≠ q.1)
def rentD (p : REnt) : Lit × DataW Value := (.string p.1, .held p.2)
/-- The map as read and the list have the same entries. -/
def RSim (D : DataW Value) (L : List REnt) : Prop := ∃ es, D = .map es ∧ es.Pairwise (fun p q => p.1 ≠ q.1) ∧ RUniq L ∧ ∀ q, q ∈ es ↔ ∃ p ∈ L, q = rentD p

theorem RSim.empty : RSim (.map []) [] := ⟨[], rfl, List.Pairwise.nil, List.Pairwise.nil, by simp⟩
theorem RSim.uniq {D : DataW Value} {L : List REnt} (h : RSim D L) : RUniq L := by obtain ⟨_, _, _, h, _⟩ := h; exact h
theorem rlook_some {L : List REnt} {k : List UInt8} {v : Value} (h : rlook L k = some v) : (k, v) ∈ L := by
  unfold rlook at h
  rw [Option.map_eq_some_iff] at h
  obtain ⟨p, hp, rfl⟩ := h
  have h1 := List.mem_of_find?_eq_some hp
  have h2 := List.find?_some hp
  rw [show k = p.1 from (beq_iff_eq.1 h2).symm]
  exact h1
theorem rlook_none {L : List REnt} {k : List UInt8} (h : rlook L k = none) : ∀ p ∈ L, p.1 ≠ k := by
  unfold rlook at h
  rw [Option.map_eq_none_iff, List.find?_eq_none] at h
  exact fun p hp e => h p hp (by simp [e])
theorem RUniq.eq {L : List REnt} (h : RUniq L) : ∀ {p q : REnt}, p ∈ L → q ∈ L → p.1 = q.1 → p = q := by
  induction L with
  | nil => intro p q hp; simp at hp
  | cons a r ih =>
    intro p q hp hq e
    obtain ⟨h1, h2⟩ := List.pairwise_cons.1 h
    rcases List.mem_cons.1 hp with e1 | hp'
    · rcases List.mem_cons.1 hq with e2 | hq'
      · rw [e1, e2]
      · exact absurd e (by rw [e1]; exact h1 q hq')
    · rcases List.mem_cons.1 hq with e2 | hq'
      · exact absurd e.symm (by rw [e2]; exact h1 p hp')
      · exact ih h2 hp' hq' e
theorem rlook_of_mem {L : List REnt} (h : RUniq L) {k : List UInt8} {v : Value} (hm : (k, v) ∈ L) : rlook L k = some v := by
  cases hl : rlook L k with
  | none => exact absurd rfl (rlook_none hl _ hm)
  | some v' => have := h.eq hm (rlook_some hl) rfl; simp at this; rw [this]
theorem RSim.size {D : DataW Value} {L : List REnt} (h : RSim D L) : Maps.size D = L.length := by
  obtain ⟨es, rfl, h1, h2, h3⟩ := h
  show es.length = L.length
  have hp : es.Perm (L.map rentD) := by
    refine (List.perm_ext_iff_of_nodup ?_ ?_).2 (fun q => ?_)
    · exact h1.imp (fun {a b} hab e => hab (by rw [e]))
    · rw [List.nodup_iff_pairwise_ne, List.pairwise_map]
      exact h2.imp (fun {a b} hab e => hab (by simpa [rentD] using (Prod.ext_iff.1 e).1))
    · rw [h3, List.mem_map]
      exact ⟨fun ⟨p, hp, e⟩ => ⟨p, hp, e.symm⟩, fun ⟨p, hp, e⟩ => ⟨p, hp, e.symm⟩⟩
  rw [hp.length_eq, List.length_map]
theorem risKey_str (k : List UInt8) : WideAt.IsKeyLit (.string k) := trivial
theorem RSim.at_some {D : DataW Value} {L : List REnt} (h : RSim D L) {k : List UInt8} {v : Value} (hl : rlook L k = some v) (z : DataW Value) : D.atKey (.string k) z = .held v := by
  obtain ⟨es, rfl, h1, h2, h3⟩ := h
  exact WideAt.atKey_mem z (risKey_str k) h1 ((h3 _).2 ⟨_, rlook_some hl, rfl⟩)
theorem RSim.has {D : DataW Value} {L : List REnt} (h : RSim D L) (k : List UInt8) : Maps.has D (.string k) = (rlook L k).isSome := by
  cases hl : rlook L k with
  | some v => exact has_true_of_atKey (h.at_some hl)
  | none =>
    obtain ⟨es, rfl, h1, h2, h3⟩ := h
    show es.any _ = false
    rw [List.any_eq_false]
    intro q hq hs
    obtain ⟨p, hp, rfl⟩ := (h3 q).1 hq
    have e := WideAt.sameKey_eq hs
    exact rlook_none hl p hp (by simpa [rentD] using e)
theorem RSim.at_none {D : DataW Value} {L : List REnt} (h : RSim D L) {k : List UInt8} (hl : rlook L k = none) (z : DataW Value) : D.atKey (.string k) z = z :=
  atKey_of_not_has (by rw [h.has, hl]; rfl) z
theorem RSim.mem {D : DataW Value} {L : List REnt} (h : RSim D L) {k : List UInt8} {v : Value} (hat : ∀ z, D.atKey (.string k) z = .held v) : (k, v) ∈ L := by
  cases hl : rlook L k with
  | none =>
    have h1 := hat .nil
    rw [h.at_none hl] at h1
    cases h1
  | some v' =>
    have h1 := hat .nil
    rw [h.at_some hl] at h1
    injection h1 with h1
    rw [← h1]
    exact rlook_some hl
/-- A store. -/
theorem RSim.put {D : DataW Value} {L L' : List REnt} (h : RSim D L) {k : List UInt8} {v : Value} (hu : RUniq L') (hm : ∀ p, p ∈ L' ↔ p = (k, v) ∨ (p ∈ L ∧ p.1 ≠ k)) : RSim (D.put (.string k) (.held v)) L' := by
  have ht : Tidy D := by obtain ⟨es, rfl, h1, _⟩ := h; exact ⟨es, rfl, h1⟩
  obtain ⟨es', he, h1'⟩ := ht.put (risKey_str k) (.held v)
  obtain ⟨es, rfl, h1, h2, h3⟩ := h
  refine ⟨es', he, h1', hu, fun q => ?_⟩
  have he' : es' = DataW.insert (.string k, .held v) (es.filter fun p => !p.1.sameKey (.string k)) := by injection he.symm
  rw [he', (insert_perm _ _).mem_iff, List.mem_cons, List.mem_filter, h3]
  constructor
  · rintro (rfl | ⟨⟨p, hp, rfl⟩, hne⟩)
    · exact ⟨(k, v), (hm _).2 (.inl rfl), rfl⟩
    · refine ⟨p, (hm _).2 (.inr ⟨hp, fun e => ?_⟩), rfl⟩
      subst e
      simp [rentD, WideAt.sameKey_self (risKey_str p.1)] at hne
  · rintro ⟨p, hp, rfl⟩
    rcases (hm p).1 hp with rfl | ⟨hp, hne⟩
    · exact .inl rfl
    · refine .inr ⟨⟨p, hp, rfl⟩, ?_⟩
      have : (rentD p).1.sameKey (.string k) = false := sameKey_ne (by simpa [rentD] using hne)
      rw [this]; rfl
theorem RSim.del {D : DataW Value} {L L' : List REnt} (h : RSim D L) {k : List UInt8} (hu : RUniq L') (hm : ∀ p, p ∈ L' ↔ (p ∈ L ∧ p.1 ≠ k)) : RSim (D.del (.string k)) L' := by
  obtain ⟨es, rfl, h1, h2, h3⟩ := h
  refine ⟨_, rfl, h1.filter _, hu, fun q => ?_⟩
  rw [List.mem_filter, h3]
  constructor
  · rintro ⟨⟨p, hp, rfl⟩, hne⟩
    refine ⟨p, (hm _).2 ⟨hp, fun e => ?_⟩, rfl⟩
    subst e
    simp [rentD, WideAt.sameKey_self (risKey_str p.1)] at hne
  · rintro ⟨p, hp, rfl⟩
    obtain ⟨hp, hne⟩ := (hm p).1 hp
    refine ⟨⟨p, hp, rfl⟩, ?_⟩
    have : (rentD p).1.sameKey (.string k) = false := sameKey_ne (by simpa [rentD] using hne)
    rw [this]; rfl
theorem RUniq.filter {L : List REnt} (h : RUniq L) (f : REnt → Bool) : RUniq (L.filter f) := List.Pairwise.filter _ h

/-- What a store does to the entries. -/
def rput (L : List REnt) (k : List UInt8) (v : Value) : List REnt := if (rlook L k).isSome then L.map (fun p => if p.1 = k then (k, v) else p) else L ++ [(k, v)]
def rdel (L : List REnt) (k : List UInt8) : List REnt := L.filter fun p => !(p.1 == k)
theorem rput_uniq {L : List REnt} (h : RUniq L) (k : List UInt8) (v : Value) : RUniq (rput L k v) := by
  unfold rput
  split
  · unfold RUniq
    rw [List.pairwise_map]
    refine h.imp (fun {a b} hab => ?_)
    split <;> split <;> rename_i e1 e2
    · exact absurd (e1.trans e2.symm) hab
    · exact fun e => e2 e.symm
    · exact fun e => e1 e
    · exact hab
  · rename_i hn
    have hl : rlook L k = none := by simpa using hn
    unfold RUniq
    rw [List.pairwise_append]
    exact ⟨h, by simp, fun a ha b hb => by simp at hb; subst hb; exact rlook_none hl a ha⟩
theorem rput_mem {L : List REnt} (k : List UInt8) (v : Value) (p : REnt) : p ∈ rput L k v ↔ p = (k, v) ∨ (p ∈ L ∧ p.1 ≠ k) := by
  unfold rput
  split
  · rename_i hs
    obtain ⟨o, ho⟩ := Option.isSome_iff_exists.1 hs
    rw [List.mem_map]
    constructor
    · rintro ⟨q, hq, rfl⟩
      by_cases e : q.1 = k
      · rw [if_pos e]; exact .inl rfl
      · rw [if_neg e]; exact .inr ⟨hq, e⟩
    · rintro (rfl | ⟨hp, hne⟩)
      · exact ⟨_, rlook_some ho, by rw [if_pos rfl]⟩
      · exact ⟨p, hp, by rw [if_neg hne]⟩
  · rename_i hn
    have hl : rlook L k = none := by simpa using hn
    rw [List.mem_append, List.mem_singleton]
    constructor
    · rintro (h | h)
      · exact .inr ⟨h, rlook_none hl p h⟩
      · exact .inl h
    · rintro (h | ⟨h, _⟩)
      · exact .inr h
      · exact .inl h
theorem rput_len (L : List REnt) (k : List UInt8) (v : Value) : (rput L k v).length = if (rlook L k).isSome then L.length else L.length + 1 := by
  unfold rput; split <;> simp
theorem rdel_mem {L : List REnt} (k : List UInt8) (p : REnt) : p ∈ rdel L k ↔ (p ∈ L ∧ p.1 ≠ k) := by simp [rdel]

/-! ### association lists, whatever the values -/
section
variable {V : Type}
def alook (L : List (List UInt8 × V)) (k : List UInt8) : Option V := (L.find? (fun p => p.1 == k)).map (·.2)
def AUniq (L : List (List UInt8 × V)) : Prop := L.Pairwise (fun p q => p.1 ≠ q.1)
def aput (L : List (List UInt8 × V)) (k : List UInt8) (v : V) : List (List UInt8 × V) := if (alook L k).isSome then L.map (fun p => if p.1 = k then (k, v) else p) else L ++ [(k, v)]
def adel (L : List (List UInt8 × V)) (k : List UInt8) : List (List UInt8 × V) := L.filter fun p => !(p.1 == k)
theorem alook_cons (p : List UInt8 × V) (L : List (List UInt8 × V)) (k : List UInt8) : alook (p :: L) k = if p.1 = k then some p.2 else alook L k := by
  unfold alook
  rw [List.find?_cons]
  by_cases h : p.1 = k
  · simp [h]
  · have : (p.1 == k) = false := by simpa using h
    simp [this, h]
theorem alook_none {L : List (List UInt8 × V)} {k : List UInt8} : alook L k = none ↔ ∀ p ∈ L, p.1 ≠ k := by
  unfold alook
  rw [Option.map_eq_none_iff, List.find?_eq_none]
  exact ⟨fun h p hp e => h p hp (by simp [e]), fun h p hp => by simpa using h p hp⟩
theorem alook_some {L : List (List UInt8 × V)} {k : List UInt8} {v : V} (h : alook L k = some v) : (k, v) ∈ L := by
  unfold alook at h
  rw [Option.map_eq_some_iff] at h
  obtain ⟨p, hp, rfl⟩ := h
  have h1 := List.mem_of_find?_eq_some hp
  have h2 := List.find?_some hp
  rw [show k = p.1 from (beq_iff_eq.1 h2).symm]
  exact h1
theorem alook_of_mem {L : List (List UInt8 × V)} (h : AUniq L) {k : List UInt8} {v : V} (hm : (k, v) ∈ L) : alook L k = some v := by
  induction L with
  | nil => simp at hm
  | cons p r ih =>
    obtain ⟨h1, h2⟩ := List.pairwise_cons.1 h
    rw [alook_cons]
    rcases List.mem_cons.1 hm with e | hm'
    · rw [← e]; simp
    · rw [if_neg (h1 _ hm')]; exact ih h2 hm'
theorem alook_app (L M : List (List UInt8 × V)) (k : List UInt8) : alook (L ++ M) k = (alook L k).or (alook M k) := by
  induction L with
  | nil => simp [alook]
  | cons p r ih =>
    rw [List.cons_append, alook_cons, alook_cons]
    by_cases h : p.1 = k
    · simp [h]
    · rw [if_neg h, if_neg h, ih]
theorem alook_put (L : List (List UInt8 × V)) (k : List UInt8) (v : V) (j : List UInt8) : alook (aput L k v) j = if k = j then some v else alook L j := by
  unfold aput
  split
  · rename_i hs
    have key : ∀ M : List (List UInt8 × V), alook (M.map (fun p => if p.1 = k then (k, v) else p)) j = if k = j then (alook M k).map (fun _ => v) else alook M j := by
      intro M
      induction M with
      | nil => by_cases h : k = j <;> simp [alook, h]
      | cons p r ih =>
        rw [List.map_cons, alook_cons, alook_cons, alook_cons, ih]
        by_cases hp : p.1 = k
        · by_cases hj : k = j
          · simp [hp, hj]
          · simp [hp, hj]
        · by_cases hj : k = j
          · subst hj; simp [hp]
          · simp [hp, hj]
    rw [key]
    obtain ⟨o, ho⟩ := Option.isSome_iff_exists.1 hs
    by_cases h : k = j
    · simp [h]; rw [h] at ho; simp [ho]
    · simp [h]
  · rename_i hn
    have hl : alook L k = none := by simpa using hn
    rw [alook_app, alook_cons]
    by_cases h : k = j
    · subst h; simp [hl]
    · simp [h, alook]
theorem alook_del (L : List (List UInt8 × V)) (k j : List UInt8) : alook (adel L k) j = if k = j then none else alook L j := by
  unfold adel
  induction L with
  | nil => simp [alook]
  | cons p r ih =>
    rw [List.filter_cons]
    by_cases hp : p.1 = k
    · rw [if_neg (by simp [hp]), ih, alook_cons]
      by_cases h : k = j
      · simp [h]
      · rw [if_neg h, if_neg h, if_neg (by rw [hp]; exact h)]
    · rw [if_pos (by simpa using hp), alook_cons, alook_cons, ih]
      by_cases h : k = j
      · subst h; simp [hp]
      · simp [h]
theorem aput_len (L : List (List UInt8 × V)) (k : List UInt8) (v : V) : (aput L k v).length = if (alook L k).isSome then L.length else L.length + 1 := by
  unfold aput; split <;> simp
theorem aput_uniq {L : List (List UInt8 × V)} (h : AUniq L) (k : List UInt8) (v : V) : AUniq (aput L k v) := by
  unfold aput
  split
  · unfold AUniq
    rw [List.pairwise_map]
    refine h.imp (fun {a b} hab => ?_)
    split <;> split <;> rename_i e1 e2
    · exact absurd (e1.trans e2.symm) hab
    · exact fun e => e2 e.symm
    · exact fun e => e1 e
    · exact hab
  · rename_i hn
    have hl : alook L k = none := by simpa using hn
    unfold AUniq
    rw [List.pairwise_append]
    exact ⟨h, by simp, fun a ha b hb => by simp at hb; subst hb; exact alook_none.1 hl a ha⟩
theorem AUniq.adel {L : List (List UInt8 × V)} (h : AUniq L) (k : List UInt8) : AUniq (adel L k) := List.Pairwise.filter _ h
theorem adel_len {L : List (List UInt8 × V)} (h : AUniq L) (k : List UInt8) : (adel L k).length = if (alook L k).isSome then L.length - 1 else L.length := by
  induction L with
  | nil => simp [Go.Proofs.Ytdikijbkfhimoaa.adel, alook]
  | cons p r ih =>
    obtain ⟨h1, h2⟩ := List.pairwise_cons.1 h
    have ih := ih h2
    unfold Go.Proofs.Ytdikijbkfhimoaa.adel at ih ⊢
    rw [List.filter_cons, alook_cons]
    by_cases hp : p.1 = k
    · have hn : alook r k = none := alook_none.2 (fun q hq e => h1 q hq (by rw [hp, e]))
      rw [hn] at ih
      rw [if_neg (by simp [hp]), if_pos hp, ih]
      simp
    · rw [if_pos (by simpa using hp), if_neg hp, List.length_cons, ih]
      split
      · rename_i hs
        have : 0 < r.length := by
          obtain ⟨v, hv⟩ := Option.isSome_iff_exists.1 hs
          exact List.length_pos_of_mem (alook_some hv)
        simp; omega
      · simp
end
theorem rlook_eq (L : List REnt) (k : List UInt8) : rlook L k = alook L k := rfl
theorem rput_eq (L : List REnt) (k : List UInt8) (v : Value) : rput L k v = aput L k v := rfl
theorem rdel_eq (L : List REnt) (k : List UInt8) : rdel L k = adel L k := rfl

/-! ### in memory -/
section
variable {P : Program} {ks : TypeId}
/-- Block mb is a map with the entries L. -/
structure RawMap (P : Program) (ks : TypeId) (w : World) (mb : Nat) (L : List REnt) : Prop where
  map : ∃ D, w.ownsMap P ks rawElem mb L.length D ∧ RSim D L
theorem ownsMap_tight {w : World} {k : TypeId} {H : Type} {R : Value → Option (DataW H × List MemPlace)} {b n : Nat} {D : DataW H} (h : w.ownsMap P k R b n D) : w.ownsMap P k R b (Maps.size D) D := by
  obtain ⟨es, clock, hb, F, hs, rfl⟩ := h
  exact ⟨es, clock, hb, F, by simp [Maps.size, length_sorted], rfl⟩
theorem RawMap.of {w : World} {mb n : Nat} {L : List REnt} {D : DataW Value} (h : w.ownsMap P ks rawElem mb n D) (hs : RSim D L) : RawMap P ks w mb L :=
  ⟨D, by rw [← hs.size]; exact ownsMap_tight h, hs⟩
theorem RawMap.uniq {w : World} {mb : Nat} {L : List REnt} (h : RawMap P ks w mb L) : RUniq L := by obtain ⟨D, _, hs⟩ := h.map; exact hs.uniq
theorem RawMap.kept {S : List Nat} {w w' : World} {mb : Nat} {L : List REnt} (h : RawMap P ks w mb L) (k : Kept S w w') (hn : mb ∉ S) : RawMap P ks w' mb L := by
  obtain ⟨D, ho, hs⟩ := h.map
  exact ⟨D, k.ownsMap ho hn, hs⟩
theorem RawMap.lt {w : World} {mb : Nat} {L : List REnt} (h : RawMap P ks w mb L) : mb < w.heap.size := by
  obtain ⟨D, ho, _⟩ := h.map; exact ho.lt
theorem RawMap.blk {w : World} {mb : Nat} {L : List REnt} (h : RawMap P ks w mb L) : ∃ es clock, w.heap[mb]? = some (.map es clock) := by
  obtain ⟨D, ⟨es, clock, hb, _⟩, _⟩ := h.map; exact ⟨es, clock, hb⟩
theorem RawMap.ne {w : World} {mb b : Nat} {L : List REnt} (h : RawMap P ks w mb L) {cs : Array Value} {t : TypeId} {fz : Nat × Nat} (hb : w.heap[b]? = some (.cells cs t fz)) : b ≠ mb := by
  intro e
  obtain ⟨es, clock, hm⟩ := h.blk
  rw [← e, hb] at hm
  cases hm
theorem RawMap.made (w : World) : RawMap P ks (w.alloc (.map #[] 0)) w.heap.size [] := ⟨.map [], World.ownsMap_made _ _ _ _, RSim.empty⟩
theorem RawMap.look_ok {w : World} {mb : Nat} {L : List REnt} (h : RawMap P ks w mb L) {t e : TypeId} (K : Keyed P ks) (hk : P.underlying ks = some .string) (ht : P.underlying t = some (.map ks e)) {z : Value} (hz : (zeroValue e).run P w = .ok z w) (s : ByteArray) (hs : s.size ≤ maxLen) :
    (Instr.lookup t (.map (some mb)) (.string s) true).run P w = .ok (.tuple #[(rlook L s.data.toList).getD z, .bool (rlook L s.data.toList).isSome]) w := by
  obtain ⟨D, ho, hD⟩ := h.map
  obtain ⟨v, ps, hrun, hv⟩ := ho.look_ok K ht hz (zd := .held z) (zp := []) rfl (WideMaps.keyOf_string_mk hk hs)
  rw [hrun, hD.has]
  have hv := rawElem_inv hv
  injection hv with hv
  cases hl : rlook L s.data.toList with
  | none => rw [hD.at_none hl] at hv; injection hv with hv; rw [hv]; rfl
  | some u => rw [hD.at_some hl] at hv; injection hv with hv; rw [hv]; rfl
theorem RawMap.look {w : World} {mb : Nat} {L : List REnt} (h : RawMap P ks w mb L) {t e : TypeId} (K : Keyed P ks) (hk : P.underlying ks = some .string) (ht : P.underlying t = some (.map ks e)) {z : Value} (hz : (zeroValue e).run P w = .ok z w) (s : ByteArray) (hs : s.size ≤ maxLen) :
    (Instr.lookup t (.map (some mb)) (.string s) false).run P w = .ok ((rlook L s.data.toList).getD z) w := by
  obtain ⟨D, ho, hD⟩ := h.map
  obtain ⟨v, ps, hrun, hv⟩ := ho.lookup K ht hz (zd := .held z) (zp := []) rfl (WideMaps.keyOf_string_mk hk hs)
  rw [hrun]
  have hv := rawElem_inv hv
  injection hv with hv
  cases hl : rlook L s.data.toList with
  | none => rw [hD.at_none hl] at hv; injection hv with hv; rw [hv]; rfl
  | some u => rw [hD.at_some hl] at hv; injection hv with hv; rw [hv]; rfl
theorem RawMap.len {w : World} {mb : Nat} {L : List REnt} (h : RawMap P ks w mb L) {t e : TypeId} (ht : P.underlying t = some (.map ks e)) (ty : TypeId) :
    (Builtin.len_ #[t] ty #[.map (some mb)]).run P w = .ok (.int .i64 L.length) w := by
  obtain ⟨D, ho, hD⟩ := h.map
  rw [ho.len ht ty, hD.size]
theorem RawMap.put {w : World} {mb : Nat} {L : List REnt} (h : RawMap P ks w mb L) {t e : TypeId} (K : Keyed P ks) (hk : P.underlying ks = some .string) (ht : P.underlying t = some (.map ks e)) (hn : L.length < maxLen) (s : ByteArray) (hs : s.size ≤ maxLen) (v : Value) :
    ∃ w', (Instr.mapUpdate t (.map (some mb)) (.string s) v).run P w = .ok () w' ∧ RawMap P ks w' mb (rput L s.data.toList v) ∧ Kept [mb] w w' ∧ w'.heap.size = w.heap.size := by
  obtain ⟨D, ho, hD⟩ := h.map
  obtain ⟨w', hr, ho', ht'⟩ := ho.store K ht hn (val := v) (WideMaps.keyOf_string_mk hk hs) rfl
  refine ⟨w', hr, RawMap.of ho' (hD.put (rput_uniq hD.uniq _ _) (rput_mem _ _)), (Kept.of_grown ht'.grown).mono (by simp), ?_⟩
  obtain ⟨es, clock, es', clock', hb, rfl⟩ := ht'
  simp [ChangeMaps.setBlock]
theorem RawMap.drop {w : World} {mb : Nat} {L : List REnt} (h : RawMap P ks w mb L) {t e : TypeId} (K : Keyed P ks) (hk : P.underlying ks = some .string) (ht : P.underlying t = some (.map ks e)) (ty : TypeId) (s : ByteArray) (hs : s.size ≤ maxLen) :
    ∃ w', (Builtin.delete_ #[t, ks] ty #[.map (some mb), .string s]).run P w = .ok (.tuple #[]) w' ∧ RawMap P ks w' mb (rdel L s.data.toList) ∧ Kept [mb] w w' ∧ w'.heap.size = w.heap.size := by
  obtain ⟨D, ho, hD⟩ := h.map
  obtain ⟨w', hr, ho', ht'⟩ := ho.drop K ht (WideMaps.keyOf_string_mk hk hs) ty
  refine ⟨w', hr, RawMap.of ho' (hD.del (hD.uniq.filter _) (rdel_mem _)), (Kept.of_grown ht'.grown).mono (by simp), ?_⟩
  obtain ⟨es, clock, es', clock', hb, rfl⟩ := ht'
  simp [ChangeMaps.setBlock]
end
end Go.Proofs.Ytdikijbkfhimoaa
