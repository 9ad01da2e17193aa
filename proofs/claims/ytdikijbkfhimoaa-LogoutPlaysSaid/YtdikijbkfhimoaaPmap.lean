/- A map from strings to pointers, each to what lies in blocks of its own; looked up, stored, deleted, ranged over. No program. -/
import Derived.Test.YtdikijbkfhimoaaRange
import Derived.Test.YtdikijbkfhimoaaRow
namespace Go.Proofs.Ytdikijbkfhimoaa
open Go.RowKit Go.Maps Go.WideShapes

section
variable {P : Program} {ks : TypeId} {α : Type} {C : World → α → Prop} {dom : α → List Nat} {ptr : α → Nat}
/-- What is asked of the things: they last while their blocks are kept. -/
structure PLaw {α : Type} (C : World → α → Prop) (dom : α → List Nat) (ptr : α → Nat) : Prop where
  kept : ∀ (S : List Nat) (w w' : World) (x : α), C w x → Kept S w w' → (∀ i ∈ dom x, i ∉ S) → C w' x
  own : ∀ x, ptr x ∈ dom x
  cells : ∀ (w : World) (x : α), C w x → ∀ i ∈ dom x, ∃ cs t fz, w.heap[i]? = some (.cells cs t fz)
theorem PLaw.lt (h : PLaw C dom ptr) {w : World} {x : α} (hx : C w x) : ∀ i ∈ dom x, i < w.heap.size := by
  intro i hi
  obtain ⟨cs, t, fz, hb⟩ := h.cells w x hx i hi
  exact lt_of_heap hb
def pent {α : Type} (ptr : α → Nat) (p : List UInt8 × α) : REnt := (p.1, .pointer (some ⟨ptr p.2, 0, none⟩))
def pdom {α : Type} (dom : α → List Nat) (mb : Nat) (X : List (List UInt8 × α)) : List Nat := mb :: X.flatMap fun p => dom p.2
theorem pdom_mem {mb : Nat} {X : List (List UInt8 × α)} {i : Nat} : i ∈ pdom dom mb X ↔ i = mb ∨ ∃ p ∈ X, i ∈ dom p.2 := by
  unfold pdom; simp only [List.mem_cons, List.mem_flatMap]
def Apart {α : Type} (dom : α → List Nat) (X : List (List UInt8 × α)) : Prop := X.Pairwise fun p q => ∀ i ∈ dom p.2, i ∉ dom q.2
/-- Block mb is a map from strings to pointers to the things X, which lie in blocks of their own. -/
structure PMap (P : Program) (ks : TypeId) {α : Type} (C : World → α → Prop) (dom : α → List Nat) (ptr : α → Nat) (w : World) (mb : Nat) (X : List (List UInt8 × α)) : Prop where
  map : RawMap P ks w mb (X.map (pent ptr))
  each : ∀ p ∈ X, C w p.2
  apart : Apart dom X
theorem auniq_of {X : List (List UInt8 × α)} (h : RUniq (X.map (pent ptr))) : AUniq X := by
  unfold RUniq at h
  rw [List.pairwise_map] at h
  exact h
theorem PMap.uniq {w : World} {mb : Nat} {X : List (List UInt8 × α)} (h : PMap P ks C dom ptr w mb X) : AUniq X := auniq_of h.map.uniq
theorem Apart.mem {X : List (List UInt8 × α)} (h : Apart dom X) : ∀ {p q : List UInt8 × α}, p ∈ X → q ∈ X → p.1 ≠ q.1 → ∀ i ∈ dom p.2, i ∉ dom q.2 := by
  induction X with
  | nil => intro p q hp; simp at hp
  | cons a r ih =>
    intro p q hp hq hne i hi hj
    obtain ⟨h1, h2⟩ := List.pairwise_cons.1 h
    rcases List.mem_cons.1 hp with e1 | hp'
    · rcases List.mem_cons.1 hq with e2 | hq'
      · rw [e1, e2] at hne; exact hne rfl
      · rw [e1] at hi; exact h1 q hq' i hi hj
    · rcases List.mem_cons.1 hq with e2 | hq'
      · rw [e2] at hj; exact h1 p hp' i hj hi
      · exact ih h2 hp' hq' hne i hi hj
theorem PMap.mbout (hL : PLaw C dom ptr) {w : World} {mb : Nat} {X : List (List UInt8 × α)} (h : PMap P ks C dom ptr w mb X) : ∀ p ∈ X, mb ∉ dom p.2 := by
  intro p hp hm
  obtain ⟨cs, t, fz, hb⟩ := hL.cells w p.2 (h.each p hp) mb hm
  exact h.map.ne hb rfl
theorem PMap.lt (hL : PLaw C dom ptr) {w : World} {mb : Nat} {X : List (List UInt8 × α)} (h : PMap P ks C dom ptr w mb X) : ∀ i ∈ pdom dom mb X, i < w.heap.size := by
  intro i hi
  rcases pdom_mem.1 hi with e | ⟨p, hp, hd⟩
  · rw [e]; exact h.map.lt
  · exact hL.lt (h.each p hp) i hd
theorem PMap.kept (hL : PLaw C dom ptr) {S : List Nat} {w w' : World} {mb : Nat} {X : List (List UInt8 × α)} (h : PMap P ks C dom ptr w mb X) (k : Kept S w w') (hS : ∀ i ∈ pdom dom mb X, i ∉ S) : PMap P ks C dom ptr w' mb X :=
  ⟨h.map.kept k (hS mb (pdom_mem.2 (.inl rfl))), fun p hp => hL.kept S w w' p.2 (h.each p hp) k (fun i hi => hS i (pdom_mem.2 (.inr ⟨p, hp, hi⟩))), h.apart⟩
theorem PMap.keptN (hL : PLaw C dom ptr) {w w' : World} {mb : Nat} {X : List (List UInt8 × α)} (h : PMap P ks C dom ptr w mb X) (k : Kept [] w w') : PMap P ks C dom ptr w' mb X := h.kept hL k (by simp)
theorem rlook_pent (X : List (List UInt8 × α)) (k : List UInt8) : rlook (X.map (pent ptr)) k = (alook X k).map fun x => .pointer (some ⟨ptr x, 0, none⟩) := by
  induction X with
  | nil => rfl
  | cons a r ih =>
    rw [List.map_cons, rlook_eq, alook_cons, alook_cons]
    show (if a.1 = k then some (Value.pointer (some ⟨ptr a.2, 0, none⟩)) else alook (r.map (pent ptr)) k) = _
    rw [← rlook_eq, ih]
    by_cases h : a.1 = k
    · rw [if_pos h, if_pos h]; rfl
    · rw [if_neg h, if_neg h]
theorem PMap.of_look {w : World} {mb : Nat} {X : List (List UInt8 × α)} (h : PMap P ks C dom ptr w mb X) {k : List UInt8} {x : α} (hx : alook X k = some x) : C w x := h.each _ (alook_some hx)
/-- What a lookup yields. -/
def pval {α : Type} (ptr : α → Nat) (o : Option α) : Value := .pointer (o.map fun x => ⟨ptr x, 0, none⟩)
theorem pval_some {α : Type} (ptr : α → Nat) (x : α) : pval ptr (some x) = .pointer (some ⟨ptr x, 0, none⟩) := rfl
theorem pval_none {α : Type} (ptr : α → Nat) : pval ptr none = .pointer none := rfl
theorem PMap.look {w : World} {mb : Nat} {X : List (List UInt8 × α)} (h : PMap P ks C dom ptr w mb X) {t e : TypeId} (K : Keyed P ks) (hk : P.underlying ks = some .string) (ht : P.underlying t = some (.map ks e)) (hz : ∀ w, (zeroValue e).run P w = .ok (.pointer none) w) (s : ByteArray) (hs : s.size ≤ maxLen) :
    (Instr.lookup t (.map (some mb)) (.string s) false).run P w = .ok (pval ptr (alook X s.data.toList)) w := by
  rw [h.map.look K hk ht (hz w) s hs, rlook_pent]
  cases alook X s.data.toList <;> rfl
theorem PMap.len {w : World} {mb : Nat} {X : List (List UInt8 × α)} (h : PMap P ks C dom ptr w mb X) {t e : TypeId} (ht : P.underlying t = some (.map ks e)) (ty : TypeId) : (Builtin.len_ #[t] ty #[.map (some mb)]).run P w = .ok (.int .i64 X.length) w := by
  rw [h.map.len ht ty, List.length_map]

theorem aput_map (X : List (List UInt8 × α)) (k : List UInt8) (x : α) : (aput X k x).map (pent ptr) = rput (X.map (pent ptr)) k (.pointer (some ⟨ptr x, 0, none⟩)) := by
  unfold aput rput
  rw [rlook_pent]
  cases alook X k with
  | none => simp [pent]
  | some y =>
    simp only [Option.isSome_some, if_true, Option.map_some, List.map_map]
    apply List.map_congr_left
    intro p _
    by_cases h : p.1 = k <;> simp [pent, h]
theorem adel_map (X : List (List UInt8 × α)) (k : List UInt8) : (adel X k).map (pent ptr) = rdel (X.map (pent ptr)) k := by
  unfold adel rdel
  rw [List.filter_map]
  rfl
theorem aput_mem {X : List (List UInt8 × α)} {k : List UInt8} {x : α} {p : List UInt8 × α} (h : p ∈ aput X k x) : p = (k, x) ∨ (p ∈ X ∧ p.1 ≠ k) := by
  unfold aput at h
  split at h
  · rw [List.mem_map] at h
    obtain ⟨q, hq, rfl⟩ := h
    by_cases e : q.1 = k
    · rw [if_pos e]; exact .inl rfl
    · rw [if_neg e]; exact .inr ⟨hq, e⟩
  · rename_i hn
    have hl : alook X k = none := by simpa using hn
    rcases List.mem_append.1 h with h | h
    · exact .inr ⟨h, alook_none.1 hl p h⟩
    · exact .inl (List.mem_singleton.1 h)
theorem adel_mem {X : List (List UInt8 × α)} {k : List UInt8} {p : List UInt8 × α} : p ∈ adel X k ↔ p ∈ X ∧ p.1 ≠ k := by simp [adel]
theorem Apart.of {X : List (List UInt8 × α)} (hu : AUniq X) (h : ∀ p ∈ X, ∀ q ∈ X, p.1 ≠ q.1 → ∀ i ∈ dom p.2, i ∉ dom q.2) : Apart dom X :=
  List.Pairwise.imp_of_mem (fun {p q} hp hq hne => h p hp q hq hne) hu
theorem Apart.put {X : List (List UInt8 × α)} (h : Apart dom X) (hu : AUniq X) {k : List UInt8} {x : α} (hx : ∀ q ∈ X, q.1 ≠ k → ∀ i ∈ dom x, i ∉ dom q.2) : Apart dom (aput X k x) := by
  refine Apart.of (aput_uniq hu k x) (fun p hp q hq hne i hi hj => ?_)
  rcases aput_mem hp with e | ⟨hp', hpk⟩
  · rcases aput_mem hq with e2 | ⟨hq', hqk⟩
    · rw [e, e2] at hne; exact hne rfl
    · rw [e] at hi; exact hx q hq' hqk i hi hj
  · rcases aput_mem hq with e2 | ⟨hq', hqk⟩
    · rw [e2] at hj; exact hx p hp' hpk i hj hi
    · exact h.mem hp' hq' hne i hi hj
theorem Apart.del {X : List (List UInt8 × α)} (h : Apart dom X) (k : List UInt8) : Apart dom (adel X k) := List.Pairwise.filter _ h
/-- A thing has been written in its own blocks, or put anew in new ones. -/
theorem PMap.upd (hL : PLaw C dom ptr) {S : List Nat} {w w' : World} {mb : Nat} {X : List (List UInt8 × α)} (h : PMap P ks C dom ptr w mb X) {k : List UInt8} {x x' : α} (hx : alook X k = some x) (kp : Kept S w w') (hS : ∀ i ∈ S, i ∈ dom x ∨ w.heap.size ≤ i) (hc : C w' x') (hp : ptr x' = ptr x) (hd : ∀ i ∈ dom x', i ∈ dom x ∨ w.heap.size ≤ i) :
    PMap P ks C dom ptr w' mb (aput X k x') := by
  have hm := alook_some hx
  have hmbS : mb ∉ S := fun hi => by
    rcases hS mb hi with e | e
    · exact h.mbout hL _ hm e
    · have := h.map.lt; omega
  have hoth : ∀ q ∈ X, q.1 ≠ k → ∀ i ∈ dom q.2, i ∉ S := fun q hq hne i hi hs => by
    rcases hS i hs with e | e
    · exact h.apart.mem hq hm hne i hi e
    · have := hL.lt (h.each q hq) i hi; omega
  have hmap : (aput X k x').map (pent ptr) = X.map (pent ptr) := by
    rw [aput_map]
    unfold rput
    rw [rlook_pent, hx]
    simp only [Option.map_some, Option.isSome_some, if_true, List.map_map]
    apply List.map_congr_left
    intro p hp'
    by_cases e : p.1 = k
    · have e2 : p = (k, x) := by
        have := h.map.uniq
        have h2 := alook_of_mem h.uniq (show (p.1, p.2) ∈ X from hp')
        rw [e, hx] at h2
        injection h2 with h2
        rw [← e, h2]
      rw [e2]; simp [pent, hp]
    · simp [pent, e]
  refine ⟨by rw [hmap]; exact h.map.kept kp hmbS, fun p hp' => ?_, h.apart.put h.uniq (fun q hq hne i hi hj => ?_)⟩
  · rcases aput_mem hp' with e | ⟨hq, hne⟩
    · rw [e]; exact hc
    · exact hL.kept S w w' p.2 (h.each p hq) kp (hoth p hq hne)
  · rcases hd i hi with e | e
    · exact h.apart.mem hq hm hne i hj e
    · have := hL.lt (h.each q hq) i hj; omega
/-- A new thing is stored. -/
theorem PMap.put (hL : PLaw C dom ptr) {w w1 : World} {mb : Nat} {X : List (List UInt8 × α)} (h : PMap P ks C dom ptr w mb X) (s : ByteArray) (hs : s.size ≤ maxLen) {x : α} (hn : alook X s.data.toList = none) (kp : Kept [] w w1) (hc : C w1 x) (hd : ∀ i ∈ dom x, w.heap.size ≤ i)
    {t e : TypeId} (K : Keyed P ks) (hk : P.underlying ks = some .string) (ht : P.underlying t = some (.map ks e)) (hlen : X.length < maxLen) :
    ∃ w', (Instr.mapUpdate t (.map (some mb)) (.string s) (.pointer (some ⟨ptr x, 0, none⟩))).run P w1 = .ok () w' ∧ PMap P ks C dom ptr w' mb (X ++ [(s.data.toList, x)]) ∧ Kept [mb] w1 w' ∧ w'.heap.size = w1.heap.size := by
  have h1 := h.keptN hL kp
  obtain ⟨w', hr, hm', hk', hsz⟩ := h1.map.put K hk ht (by simpa using hlen) s hs (.pointer (some ⟨ptr x, 0, none⟩))
  have hap : aput X s.data.toList x = X ++ [(s.data.toList, x)] := by unfold aput; rw [hn]; rfl
  rw [← aput_map, hap] at hm'
  have hout : ∀ i ∈ dom x, i ∉ [mb] := fun i hi hm => by
    have := hd i hi
    have := h.map.lt
    simp at hm; omega
  refine ⟨w', hr, ⟨hm', fun p hp => ?_, ?_⟩, hk', hsz⟩
  · rcases List.mem_append.1 hp with hp | hp
    · exact hL.kept [mb] w1 w' p.2 (h1.each p hp) hk' (fun i hi hm => by simp at hm; rw [hm] at hi; exact h1.mbout hL p hp hi)
    · rw [List.mem_singleton.1 hp]; exact hL.kept [mb] w1 w' x hc hk' hout
  · rw [← hap]
    exact h.apart.put h.uniq (fun q hq _ i hi hj => by have := hd i hi; have := hL.lt (h.each q hq) i hj; omega)
theorem PMap.del (hL : PLaw C dom ptr) {w : World} {mb : Nat} {X : List (List UInt8 × α)} (h : PMap P ks C dom ptr w mb X) (s : ByteArray) (hs : s.size ≤ maxLen) {t e : TypeId} (K : Keyed P ks) (hk : P.underlying ks = some .string) (ht : P.underlying t = some (.map ks e)) (ty : TypeId) :
    ∃ w', (Builtin.delete_ #[t, ks] ty #[.map (some mb), .string s]).run P w = .ok (.tuple #[]) w' ∧ PMap P ks C dom ptr w' mb (adel X s.data.toList) ∧ Kept [mb] w w' ∧ w'.heap.size = w.heap.size := by
  obtain ⟨w', hr, hm', hk', hsz⟩ := h.map.drop K hk ht ty s hs
  rw [← adel_map] at hm'
  exact ⟨w', hr, ⟨hm', fun p hp => hL.kept [mb] w w' p.2 (h.each p (adel_mem.1 hp).1) hk' (fun i hi hm => by simp at hm; rw [hm] at hi; exact h.mbout hL p (adel_mem.1 hp).1 hi), h.apart.del _⟩, hk', hsz⟩

/-! ### ranging -/
theorem perm_del {T : List (List UInt8 × α)} (h : AUniq T) {k : List UInt8} {x : α} (hm : (k, x) ∈ T) : T.Perm ((k, x) :: adel T k) := by
  induction T with
  | nil => simp at hm
  | cons a r ih =>
    obtain ⟨h1, h2⟩ := List.pairwise_cons.1 h
    unfold adel
    rw [List.filter_cons]
    by_cases e : a.1 = k
    · have ea : a = (k, x) := by
        rcases List.mem_cons.1 hm with e1 | e1
        · exact e1.symm
        · exact absurd e (h1 _ e1)
      rw [if_neg (by simp [e])]
      have hr : r.filter (fun p => !(p.1 == k)) = r := List.filter_eq_self.2 (fun p hp => by have := h1 p hp; rw [e] at this; simpa using fun h => this h.symm)
      rw [hr, ea]
    · rw [if_pos (by simpa using e)]
      have hm' : (k, x) ∈ r := by
        rcases List.mem_cons.1 hm with e1 | e1
        · exact absurd (by rw [← e1]) e
        · exact e1
      exact ((ih h2 hm').cons a).trans (List.Perm.swap _ _ _)
structure PRange (P : Program) (ks : TypeId) {α : Type} (C : World → α → Prop) (dom : α → List Nat) (ptr : α → Nat) (w : World) (mb r : Nat) (X T : List (List UInt8 × α)) (cnt : Nat) : Prop where
  run : RRange P ks w mb r (X.map (pent ptr)) (T.map (pent ptr)) cnt
  each : ∀ p ∈ X, C w p.2
  apart : Apart dom X
  sub : ∀ p ∈ T, p ∈ X
theorem PRange.pmap {w : World} {mb r cnt : Nat} {X T : List (List UInt8 × α)} (h : PRange P ks C dom ptr w mb r X T cnt) : PMap P ks C dom ptr w mb X := ⟨h.run.raw, h.each, h.apart⟩
theorem PRange.uniq {w : World} {mb r cnt : Nat} {X T : List (List UInt8 × α)} (h : PRange P ks C dom ptr w mb r X T cnt) : AUniq X := h.pmap.uniq
theorem PRange.tuniq {w : World} {mb r cnt : Nat} {X T : List (List UInt8 × α)} (h : PRange P ks C dom ptr w mb r X T cnt) : AUniq T := by
  obtain ⟨n, D, left, _, hs, hT⟩ := h.run.run
  have := hs.uniq.filter (fun p => left (.string p.1))
  rw [← hT] at this
  exact auniq_of this
theorem PRange.kept (hL : PLaw C dom ptr) {S : List Nat} {w w' : World} {mb r cnt : Nat} {X T : List (List UInt8 × α)} (h : PRange P ks C dom ptr w mb r X T cnt) (k : Kept S w w') (hS : ∀ i ∈ pdom dom mb X, i ∉ S) (hr : r ∉ S) : PRange P ks C dom ptr w' mb r X T cnt :=
  ⟨h.run.kept k (hS mb (pdom_mem.2 (.inl rfl))) hr, (h.pmap.kept hL k hS).each, h.apart, h.sub⟩
theorem PRange.keptN (hL : PLaw C dom ptr) {w w' : World} {mb r cnt : Nat} {X T : List (List UInt8 × α)} (h : PRange P ks C dom ptr w mb r X T cnt) (k : Kept [] w w') : PRange P ks C dom ptr w' mb r X T cnt := h.kept hL k (by simp) (by simp)
theorem pent_filter (T : List (List UInt8 × α)) (k : List UInt8) : (T.map (pent ptr)).filter (fun p => !(p.1 == k)) = (adel T k).map (pent ptr) := by
  unfold adel
  rw [List.filter_map]
  rfl
section
variable {w : World} {ops : Array Oper} {rest : List Oper} {o : Oper} {a : Act} {Q : Exit → Act → World → Prop}
theorem wp_prange (hL : PLaw C dom ptr) {mb : Nat} {X : List (List UInt8 × α)} (h : PMap P ks C dom ptr w mb X) (hg : o.guard = none) (m : Operand) (t : TypeId) (hop : o.op = Op.range t m) (e : TypeId) (K : Keyed P ks) (ht : P.underlying t = some (.map ks e)) (hm : a.eval m = .map (some mb))
    (hK : ∀ w', PRange P ks C dom ptr w' mb w.heap.size X X X.length → Kept [] w w' → w'.heap.size = w.heap.size + 1 → wpList P ops Q rest (a.put o.dst (.pointer (some ⟨w.heap.size, 0, none⟩))) w') :
    wpList P ops Q (o :: rest) a w :=
  wp_range h.map hg m t hop e K ht hm (fun w' hr k hsz => hK w' ⟨by rw [List.length_map] at hr; exact hr, (h.keptN hL k).each, h.apart, fun _ hp => hp⟩ k hsz)
theorem wp_pnext (hL : PLaw C dom ptr) {mb r cnt : Nat} {X T : List (List UInt8 × α)} (h : PRange P ks C dom ptr w mb r X T cnt) (hrx : r ∉ pdom dom mb X) (hg : o.guard = none) (it : Operand) (hop : o.op = Op.next it false) (K : Keyed P ks) (hk : P.underlying ks = some .string) (hit : a.eval it = .pointer (some ⟨r, 0, none⟩))
    (hDone : T = [] → wpList P ops Q rest (a.put o.dst (.tuple #[.bool false])) w)
    (hMore : ∀ (k : List UInt8) (x : α) (w' : World) (cnt' : Nat), k.length ≤ maxLen → (k, x) ∈ T → PRange P ks C dom ptr w' mb r X (adel T k) cnt' → cnt' < cnt → Kept [r] w w' → w'.heap.size = w.heap.size →
      (Instr.entry (.pointer (some ⟨r, 0, none⟩))).run P w' = .ok (.tuple #[.string ⟨k.toArray⟩, .pointer (some ⟨ptr x, 0, none⟩)]) w' → wpList P ops Q rest (a.put o.dst (.tuple #[.bool true, .string ⟨k.toArray⟩, .pointer (some ⟨ptr x, 0, none⟩)])) w') :
    wpList P ops Q (o :: rest) a w := by
  refine wp_next h.run hg it hop K hk hit (fun e => hDone (List.map_eq_nil_iff.1 e)) (fun x v w' cnt' hwx hm hr hlt hkp hsz hen => ?_)
  obtain ⟨⟨k, y⟩, hp, e⟩ := List.mem_map.1 hm
  have e1 : k = x.data.toList := congrArg Prod.fst e
  have e2 : Value.pointer (some ⟨ptr y, 0, none⟩) = v := congrArg Prod.snd e
  have ex : x = ⟨k.toArray⟩ := by rw [e1]
  subst e2
  subst ex
  rw [pent_filter] at hr
  refine hMore k y w' cnt' (by simpa [ByteArray.size] using hwx) hp ⟨by simpa using hr, (h.pmap.kept hL hkp (fun i hi hm => ?_)).each, h.apart, fun p hp => h.sub p (adel_mem.1 hp).1⟩ hlt hkp hsz hen
  simp at hm
  rw [hm] at hi
  exact hrx hi
theorem wp_pdelete (hL : PLaw C dom ptr) {mb r cnt : Nat} {X T : List (List UInt8 × α)} (h : PRange P ks C dom ptr w mb r X T cnt) (hg : o.guard = none) (m y : Operand) (t : TypeId) (hop : o.op = Op.call { callee := Callee.builtin Builtin.delete, args := #[m, y], argTypes := #[t, ks] })
    (e : TypeId) (K : Keyed P ks) (hk : P.underlying ks = some .string) (ht : P.underlying t = some (.map ks e)) (hm : a.eval m = .map (some mb)) (k : List UInt8) (hx : a.eval y = .string ⟨k.toArray⟩) (hxs : k.length ≤ maxLen)
    (hK : ∀ w' cnt', PRange P ks C dom ptr w' mb r (adel X k) (adel T k) cnt' → cnt' ≤ cnt → Kept [mb] w w' → w'.heap.size = w.heap.size → wpList P ops Q rest (a.put o.dst (.tuple #[])) w') :
    wpList P ops Q (o :: rest) a w := by
  refine wp_rdelete h.run hg m y t hop e K hk ht hm ⟨k.toArray⟩ hx (by simpa [ByteArray.size] using hxs) (fun w' cnt' hr hle hkp hsz => hK w' cnt' ⟨?_, fun p hp => ?_, h.apart.del k, fun p hp => ?_⟩ hle hkp hsz)
  · rw [adel_map, adel_map]; exact hr
  · exact hL.kept [mb] w w' p.2 (h.each p (adel_mem.1 hp).1) hkp (fun i hi hm => by simp at hm; rw [hm] at hi; exact h.pmap.mbout hL p (adel_mem.1 hp).1 hi)
  · exact adel_mem.2 ⟨h.sub p (adel_mem.1 hp).1, (adel_mem.1 hp).2⟩
end
end
end Go.Proofs.Ytdikijbkfhimoaa
