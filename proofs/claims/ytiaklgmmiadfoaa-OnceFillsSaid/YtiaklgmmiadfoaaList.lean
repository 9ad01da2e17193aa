/- Plain lists and maps as read: no program. -/
import Derived.Maps.RangeWalk
import Derived.WalkKit
import Derived.StringKeys
import Derived.Deep.QuietTactic
import Derived.BigQuiet
namespace Go.Proofs.Ytiaklgmmiadfoaa
open Go.RowKit Go.Maps Go.WideShapes

/-- Blocks of S may have been written, new ones made; the rest is as it was. -/
structure Kept (S : List Nat) (w w' : World) : Prop where
  os : w'.os = w.os
  tape : w'.tape = w.tape
  output : w'.output = w.output
  size : w.heap.size ≤ w'.heap.size
  block : ∀ k, k < w.heap.size → k ∉ S → w'.heap[k]? = w.heap[k]?
theorem Kept.refl (S : List Nat) (w : World) : Kept S w w := ⟨rfl, rfl, rfl, Nat.le_refl _, fun _ _ _ => rfl⟩
theorem Kept.trans {S T : List Nat} {a b c : World} (h : Kept S a b) (k : Kept T b c) (hs : ∀ i ∈ T, i ∈ S ∨ a.heap.size ≤ i) : Kept S a c :=
  ⟨k.os.trans h.os, k.tape.trans h.tape, k.output.trans h.output, Nat.le_trans h.size k.size, fun i hi hn => (k.block i (Nat.lt_of_lt_of_le hi h.size) (fun hm => by
    rcases hs i hm with h1 | h1
    · exact hn h1
    · omega)).trans (h.block i hi hn)⟩
theorem Kept.mono {S T : List Nat} {a b : World} (h : Kept S a b) (hs : ∀ i ∈ S, i ∈ T ∨ a.heap.size ≤ i) : Kept T a b :=
  ⟨h.os, h.tape, h.output, h.size, fun i hi hn => h.block i hi (fun hm => by
    rcases hs i hm with h1 | h1
    · exact hn h1
    · omega)⟩
theorem Kept.step {S T : List Nat} {a b c : World} (h : Kept S a b) (k : Kept T b c) (hs : ∀ i ∈ T, i ∈ S) : Kept S a c := h.trans k (fun i hi => .inl (hs i hi))
theorem Kept.drew {S : List Nat} {a b : World} (h : Kept S a b) : Kept S a b.drew := ⟨h.os, h.tape, h.output, h.size, h.block⟩
theorem Kept.drewN {S : List Nat} {a b : World} (h : Kept S a b) (n : Nat) : Kept S a (b.drewN n) := ⟨h.os, h.tape, h.output, h.size, h.block⟩
theorem Kept.alloc {S : List Nat} {a b : World} (h : Kept S a b) (o : Obj) : Kept S a (b.alloc o) :=
  h.step (T := []) ⟨rfl, rfl, rfl, by simp, fun k hk _ => Below.heap_alloc _ _ _ hk⟩ (by simp)
theorem Kept.setCell {S : List Nat} {a b : World} (h : Kept S a b) {p : Addr} (hp : p.block ∈ S ∨ a.heap.size ≤ p.block) (u : Value) : Kept S a (b.setCell p u) :=
  h.trans (T := [p.block]) ⟨rfl, rfl, rfl, by simp [World.setCell], fun k hk hn => Below.heap_setCell _ _ _ _ (by simpa using hn)⟩ (by simpa using hp)
theorem Kept.of_grown {w w' : World} {row : Option Nat} (h : w.grownBy w' row) : Kept row.toList w w' :=
  ⟨h.os, h.tape, h.output, h.size, fun k hk hn => h.block k hk (fun e => hn (by simp [← e]))⟩
theorem Kept.grown {S : List Nat} {a b c : World} {row : Option Nat} (h : Kept S a b) (k : b.grownBy c row) (hr : ∀ i, row = some i → i ∈ S ∨ a.heap.size ≤ i) : Kept S a c :=
  h.trans (Kept.of_grown k) (fun i hi => hr i (by simpa using hi))
theorem Kept.below {S : List Nat} {B : Nat} {a b c : World} (h : Below B a b) (k : Kept S b c) (hB : B ≤ b.heap.size) (hs : ∀ i ∈ S, B ≤ i) : Below B a c :=
  h.trans ⟨k.os, k.tape, k.output, k.size, fun i hi => k.block i (by omega) (fun hm => by have := hs i hm; omega)⟩
theorem Kept.toBelow {S : List Nat} {a b : World} (k : Kept S a b) (hs : ∀ i ∈ S, a.heap.size ≤ i) : Below a.heap.size a b :=
  Kept.below (Below.refl _ _) k (Nat.le_refl _) hs
theorem Kept.cell {S : List Nat} {a b : World} (h : Kept S a b) {p : Addr} (hp : p.block < a.heap.size) (hn : p.block ∉ S) : b.cell? p = a.cell? p := World.cell?_of_block (w := a) (h.block _ hp hn)
theorem Kept.frozen {S : List Nat} {a b : World} (h : Kept S a b) {p : Addr} (hp : p.block < a.heap.size) (hn : p.block ∉ S) : b.frozen? p = a.frozen? p := World.frozen?_of_block (w := a) (h.block _ hp hn)
theorem lt_of_heap {w : World} {b : Nat} {o : Obj} (h : w.heap[b]? = some o) : b < w.heap.size := (Array.getElem?_eq_some_iff.1 h).1
theorem Kept.at {S : List Nat} {a b : World} (h : Kept S a b) {i : Nat} {o : Obj} (hi : a.heap[i]? = some o) (hn : i ∉ S) : b.heap[i]? = some o := (h.block i (lt_of_heap hi) hn).trans hi
theorem Kept.ownsMap {S : List Nat} {w w' : World} {P : Program} {k : TypeId} {H : Type} {R : Value → Option (DataW H × List MemPlace)} {b n : Nat} {D : DataW H} (h : Kept S w w') (ho : w.ownsMap P k R b n D) (hn : b ∉ S) : w'.ownsMap P k R b n D := by
  obtain ⟨es, clock, hb, F, hs, hD⟩ := ho
  exact ⟨es, clock, h.at hb hn, F, hs, hD⟩

/-- A block of cells, known whole: its cells and marks. -/
theorem cell_at {w : World} {b : Nat} {cs : Array Value} {t : TypeId} {fz : Nat × Nat} (h : w.heap[b]? = some (.cells cs t fz)) (i : Nat) : w.cell? ⟨b, i, none⟩ = cs[i]? := by
  simp [World.cell?, h]
theorem free_at {w : World} {b : Nat} {cs : Array Value} {t : TypeId} (h : w.heap[b]? = some (.cells cs t (0, 0))) (i : Nat) : w.frozen? ⟨b, i, none⟩ = false := by
  simp [World.frozen?, h]

/-! ### lists of entries -/
abbrev Ent := List UInt8 × Int
def look (L : List Ent) (k : List UInt8) : Option Int := (L.find? (fun p => p.1 == k)).map (·.2)
def Uniq (L : List Ent) : Prop := L.Pairwise (fun p q => p.1 ≠ q.1)
def entD (p : Ent) : Lit × DataW Unit := (.string p.1, .lit (.int .i64 p.2))
/-- The map as read and the list have the same entries. -/
def Sim (D : DataW Unit) (L : List Ent) : Prop := ∃ es, D = .map es ∧ es.Pairwise (fun p q => p.1 ≠ q.1) ∧ Uniq L ∧ ∀ q, q ∈ es ↔ ∃ p ∈ L, q = entD p

theorem Sim.empty : Sim (.map []) [] := ⟨[], rfl, List.Pairwise.nil, List.Pairwise.nil, by simp⟩
theorem Sim.uniq {D : DataW Unit} {L : List Ent} (h : Sim D L) : Uniq L := by obtain ⟨_, _, _, h, _⟩ := h; exact h

theorem look_some {L : List Ent} {k : List UInt8} {v : Int} (h : look L k = some v) : (k, v) ∈ L := by
  unfold look at h
  rw [Option.map_eq_some_iff] at h
  obtain ⟨p, hp, rfl⟩ := h
  have h1 := List.mem_of_find?_eq_some hp
  have h2 := List.find?_some hp
  rw [show k = p.1 from (beq_iff_eq.1 h2).symm]
  exact h1
theorem look_none {L : List Ent} {k : List UInt8} (h : look L k = none) : ∀ p ∈ L, p.1 ≠ k := by
  unfold look at h
  rw [Option.map_eq_none_iff, List.find?_eq_none] at h
  exact fun p hp e => h p hp (by simp [e])
theorem Uniq.eq {L : List Ent} (h : Uniq L) : ∀ {p q : Ent}, p ∈ L → q ∈ L → p.1 = q.1 → p = q := by
  induction L with
  | nil => intro p q hp; simp at hp
  | cons a r ih =>
    intro p q hp hq e
    obtain ⟨h1, h2⟩ := List.pairwise_cons.1 h
    rcases List.mem_cons.1 hp with e1 | hp'
    · rcases List.mem_cons.1 hq with e2 | hq'
      · rw [e1, e2]
      · exact absurd e (by rw [e1]; exact h1 q hq')
    · rcases List.mem_cons.1 hq with e2 | hq'
      · exact absurd e.symm (by rw [e2]; exact h1 p hp')
      · exact ih h2 hp' hq' e
theorem look_of_mem {L : List Ent} (h : Uniq L) {k : List UInt8} {v : Int} (hm : (k, v) ∈ L) : look L k = some v := by
  cases hl : look L k with
  | none => exact absurd rfl (look_none hl _ hm)
  | some v' => have := h.eq hm (look_some hl) rfl; simp at this; rw [this]
theorem look_iff {L : List Ent} (h : Uniq L) {k : List UInt8} {v : Int} : look L k = some v ↔ (k, v) ∈ L := ⟨look_some, look_of_mem h⟩

theorem Sim.size {D : DataW Unit} {L : List Ent} (h : Sim D L) : Maps.size D = L.length := by
  obtain ⟨es, rfl, h1, h2, h3⟩ := h
  show es.length = L.length
  have hp : es.Perm (L.map entD) := by
    refine (List.perm_ext_iff_of_nodup ?_ ?_).2 (fun q => ?_)
    · exact h1.imp (fun {a b} hab e => hab (by rw [e]))
    · rw [List.nodup_iff_pairwise_ne, List.pairwise_map]
      exact h2.imp (fun {a b} hab e => hab (by simpa [entD] using (Prod.ext_iff.1 e).1))
    · rw [h3, List.mem_map]
      exact ⟨fun ⟨p, hp, e⟩ => ⟨p, hp, e.symm⟩, fun ⟨p, hp, e⟩ => ⟨p, hp, e.symm⟩⟩
  rw [hp.length_eq, List.length_map]

theorem isKey_str (k : List UInt8) : WideAt.IsKeyLit (.string k) := trivial

theorem Sim.at_some {D : DataW Unit} {L : List Ent} (h : Sim D L) {k : List UInt8} {v : Int} (hl : look L k = some v) (z : DataW Unit) : D.atKey (.string k) z = .lit (.int .i64 v) := by
  obtain ⟨es, rfl, h1, h2, h3⟩ := h
  exact WideAt.atKey_mem z (isKey_str k) h1 ((h3 _).2 ⟨_, look_some hl, rfl⟩)
theorem Sim.has {D : DataW Unit} {L : List Ent} (h : Sim D L) (k : List UInt8) : Maps.has D (.string k) = (look L k).isSome := by
  cases hl : look L k with
  | some v => exact has_true_of_atKey (h.at_some hl)
  | none =>
    obtain ⟨es, rfl, h1, h2, h3⟩ := h
    show es.any _ = false
    rw [List.any_eq_false]
    intro q hq hs
    obtain ⟨p, hp, rfl⟩ := (h3 q).1 hq
    have e := WideAt.sameKey_eq hs
    exact look_none hl p hp (by simpa [entD] using e)
theorem Sim.at_none {D : DataW Unit} {L : List Ent} (h : Sim D L) {k : List UInt8} (hl : look L k = none) (z : DataW Unit) : D.atKey (.string k) z = z :=
  atKey_of_not_has (by rw [h.has, hl]; rfl) z

/-- A store. -/
theorem Sim.put {D : DataW Unit} {L L' : List Ent} (h : Sim D L) {k : List UInt8} {v : Int} (hu : Uniq L') (hm : ∀ p, p ∈ L' ↔ p = (k, v) ∨ (p ∈ L ∧ p.1 ≠ k)) : Sim (D.put (.string k) (.lit (.int .i64 v))) L' := by
  have ht : Tidy D := by obtain ⟨es, rfl, h1, _⟩ := h; exact ⟨es, rfl, h1⟩
  obtain ⟨es', he, h1'⟩ := ht.put (isKey_str k) (.lit (.int .i64 v))
  obtain ⟨es, rfl, h1, h2, h3⟩ := h
  refine ⟨es', he, h1', hu, fun q => ?_⟩
  have he' : es' = DataW.insert (.string k, .lit (.int .i64 v)) (es.filter fun p => !p.1.sameKey (.string k)) := by injection he.symm
  rw [he', (insert_perm _ _).mem_iff, List.mem_cons, List.mem_filter, h3]
  constructor
  · rintro (rfl | ⟨⟨p, hp, rfl⟩, hne⟩)
    · exact ⟨(k, v), (hm _).2 (.inl rfl), rfl⟩
    · refine ⟨p, (hm _).2 (.inr ⟨hp, fun e => ?_⟩), rfl⟩
      subst e
      simp [entD, WideAt.sameKey_self (isKey_str p.1)] at hne
  · rintro ⟨p, hp, rfl⟩
    rcases (hm p).1 hp with rfl | ⟨hp, hne⟩
    · exact .inl rfl
    · refine .inr ⟨⟨p, hp, rfl⟩, ?_⟩
      have : (entD p).1.sameKey (.string k) = false := sameKey_ne (by simpa [entD] using hne)
      rw [this]; rfl
theorem Sim.del {D : DataW Unit} {L L' : List Ent} (h : Sim D L) {k : List UInt8} (hu : Uniq L') (hm : ∀ p, p ∈ L' ↔ (p ∈ L ∧ p.1 ≠ k)) : Sim (D.del (.string k)) L' := by
  obtain ⟨es, rfl, h1, h2, h3⟩ := h
  refine ⟨_, rfl, h1.filter _, hu, fun q => ?_⟩
  rw [List.mem_filter, h3]
  constructor
  · rintro ⟨⟨p, hp, rfl⟩, hne⟩
    refine ⟨p, (hm _).2 ⟨hp, fun e => ?_⟩, rfl⟩
    subst e
    simp [entD, WideAt.sameKey_self (isKey_str p.1)] at hne
  · rintro ⟨p, hp, rfl⟩
    obtain ⟨hp, hne⟩ := (hm p).1 hp
    refine ⟨⟨p, hp, rfl⟩, ?_⟩
    have : (entD p).1.sameKey (.string k) = false := sameKey_ne (by simpa [entD] using hne)
    rw [this]; rfl
/-- The same entries in another list. -/
theorem Sim.congr {D : DataW Unit} {L L' : List Ent} (h : Sim D L) (hu : Uniq L') (hm : ∀ p, p ∈ L' ↔ p ∈ L) : Sim D L' := by
  obtain ⟨es, rfl, h1, h2, h3⟩ := h
  exact ⟨es, rfl, h1, hu, fun q => by rw [h3]; exact ⟨fun ⟨p, hp, e⟩ => ⟨p, (hm p).2 hp, e⟩, fun ⟨p, hp, e⟩ => ⟨p, (hm p).1 hp, e⟩⟩⟩
theorem Uniq.filter {L : List Ent} (h : Uniq L) (f : Ent → Bool) : Uniq (L.filter f) := List.Pairwise.filter _ h

theorem ownsMap_tight {w : World} {P : Program} {k : TypeId} {H : Type} {R : Value → Option (DataW H × List MemPlace)} {b n : Nat} {D : DataW H} (h : w.ownsMap P k R b n D) : w.ownsMap P k R b (Maps.size D) D := by
  obtain ⟨es, clock, hb, F, hs, rfl⟩ := h
  exact ⟨es, clock, hb, F, by simp [Maps.size, length_sorted], rfl⟩

/-! ### ranging over a map from strings to integers -/
theorem wpList_next_ranges_si {H : Type} {P : Program} (w : World) {ops : Array Oper} {rest : List Oper} {o : Oper} {a : Act} {Q : Exit → Act → World → Prop} (hg : o.guard = none) (it : Operand) (hop : o.op = Op.next it false) (k e : TypeId) (qe : IntKind) (K : Keyed P k) (hk : P.underlying k = some .string) (he : P.underlying e = some (.int qe))
    (b r n : Nat) (D : DataW H) (left : Lit → Bool) (cnt : Nat) (hit : a.eval it = .pointer (some ⟨r, 0, none⟩)) (h : w.ranges P k (plainElem P e) b r n D left cnt)
    (hDone : cnt = 0 → (∀ kl, left kl = false) → wpList P ops Q rest (a.put o.dst (.tuple #[.bool false])) w)
    (hMore : ∀ (x : ByteArray) (c : Int) (w' : World) (cnt' : Nat), x.size ≤ maxLen → (Lit.int qe c).wf = true → left (.string x.data.toList) = true → (∀ zd, D.atKey (.string x.data.toList) zd = .lit (.int qe c)) → w'.ranges P k (plainElem P e) b r n D (fun z => left z && !z.sameKey (.string x.data.toList)) cnt' → cnt' < cnt →
      w.grownBy w' (some r) → w'.heap.size = w.heap.size → (Instr.entry (.pointer (some ⟨r, 0, none⟩))).run P w' = .ok (.tuple #[.string x, .int qe c]) w' → wpList P ops Q rest (a.put o.dst (.tuple #[.bool true, .string x, .int qe c])) w') :
    wpList P ops Q (o :: rest) a w :=
  wpList_next_ranges w hg it hop k K (plainElem P e) Value.string (Value.int qe) (fun key kl hkey => by obtain ⟨x, rfl, _⟩ := WideMaps.string_of_keyOf hk hkey; exact ⟨x, rfl⟩) (fun v y hv => by obtain ⟨c, rfl, _⟩ := plainElem_int_inv he hv; exact ⟨c, rfl⟩)
    b r n D left cnt hit h hDone (fun x c kl y w' cnt' hkey hlk hv hat hrg hlt hgr hsz hen => by
      obtain ⟨x', ex, rfl, hwx⟩ := WideMaps.string_of_keyOf hk hkey
      cases ex
      obtain ⟨c', ec, rfl, hwc⟩ := plainElem_int_inv he hv
      cases ec
      exact hMore x c w' cnt' hwx hwc hlk hat hrg hlt hgr hsz hen)

/-- What is still to come, or lives. -/
def strk (L : List Ent) (left : Lit → Bool) (n : Int) : List Ent := L.filter fun p => left (.string p.1) || decide (n < p.2)
def live (L : List Ent) (n : Int) : List Ent := L.filter fun p => decide (n < p.2)
theorem strk_start {D : DataW Unit} {L : List Ent} (h : Sim D L) (n : Int) : strk L (Maps.has D) n = L := by
  unfold strk
  refine List.filter_eq_self.2 (fun p hp => ?_)
  rw [h.has, look_of_mem h.uniq hp]
  rfl
theorem strk_end {L : List Ent} {left : Lit → Bool} (h : ∀ k, left k = false) (n : Int) : strk L left n = live L n := by
  unfold strk live
  exact List.filter_congr (fun p _ => by simp [h])
theorem strk_mem {D : DataW Unit} {L : List Ent} {left : Lit → Bool} {n : Int} (h : Sim D (strk L left n)) {k : List UInt8} {c : Int} (hat : ∀ z, D.atKey (.string k) z = .lit (.int .i64 c)) : (k, c) ∈ strk L left n := by
  cases hl : look (strk L left n) k with
  | none =>
    have h1 := hat .nil
    rw [h.at_none hl] at h1
    cases h1
  | some v =>
    have h1 := hat .nil
    rw [h.at_some hl] at h1
    injection h1 with h1
    injection h1 with _ h1
    rw [← h1]
    exact look_some hl
theorem strk_stays {D : DataW Unit} {L : List Ent} {left : Lit → Bool} {n : Int} (hu : Uniq L) (h : Sim D (strk L left n)) {k : List UInt8} {c : Int} (hat : ∀ z, D.atKey (.string k) z = .lit (.int .i64 c)) (hc : n < c) :
    strk L (fun z => left z && !z.sameKey (.string k)) n = strk L left n := by
  have hm := (List.mem_filter.1 (strk_mem h hat)).1
  unfold strk
  refine List.filter_congr (fun p hp => ?_)
  by_cases e : p.1 = k
  · have : p = (k, c) := hu.eq hp hm e
    subst this
    simp [hc]
  · have hk : (Lit.string p.1).sameKey (.string k) = false := sameKey_ne (by simpa using e)
    simp [hk]
theorem strk_struck {D : DataW Unit} {L : List Ent} {left : Lit → Bool} {n : Int} (hu : Uniq L) (h : Sim D (strk L left n)) {k : List UInt8} {c : Int} (hat : ∀ z, D.atKey (.string k) z = .lit (.int .i64 c)) (hc : c ≤ n) :
    Sim (D.del (.string k)) (strk L (fun z => left z && !z.sameKey (.string k)) n) ∧ (strk L (fun z => left z && !z.sameKey (.string k)) n).length + 1 = (strk L left n).length := by
  have hmf := strk_mem h hat
  have hm := (List.mem_filter.1 hmf).1
  have key : ∀ p, p ∈ strk L (fun z => left z && !z.sameKey (.string k)) n ↔ (p ∈ strk L left n ∧ p.1 ≠ k) := by
    intro p
    simp only [strk, List.mem_filter]
    constructor
    · rintro ⟨hp, hf⟩
      have hne : p.1 ≠ k := by
        intro e
        have : p = (k, c) := hu.eq hp hm e
        subst this
        have hk := WideAt.sameKey_self (isKey_str k)
        simp [hk] at hf
        omega
      have hk : (Lit.string p.1).sameKey (.string k) = false := sameKey_ne (by simpa using hne)
      simp only [hk, Bool.not_false, Bool.and_true] at hf
      exact ⟨⟨hp, hf⟩, hne⟩
    · rintro ⟨⟨hp, hf⟩, hne⟩
      have hk : (Lit.string p.1).sameKey (.string k) = false := sameKey_ne (by simpa using hne)
      simp only [hk, Bool.not_false, Bool.and_true]
      exact ⟨hp, hf⟩
  have h' := h.del (hu.filter _) key
  refine ⟨h', ?_⟩
  have ht : Tidy D := by obtain ⟨es, rfl, h1, _⟩ := h; exact ⟨es, rfl, h1⟩
  have hs := size_del (k := .string k) ht
  rw [has_true_of_atKey hat, h'.size, h.size, if_pos rfl] at hs
  exact hs

end Go.Proofs.Ytiaklgmmiadfoaa
