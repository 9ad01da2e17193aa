/- The record of logouts in memory: the map of sessions, a map of notifications for each. -/
import Derived.Test.YtdikijbkfhimoaaNote
import Derived.Test.YtdikijbkfhimoaaRange
import Derived.Test.YtdikijbkfhimoaaRow
import Derived.Test.YtdikijbkfhimoaaLeaf
namespace Go.Proofs.Ytdikijbkfhimoaa
open Go.RowKit Go.Maps Go.WideShapes

theorem lawS : Keyed Try.prog 9 := string_keyed Try.underlying9
abbrev MapS (w : World) (mb : Nat) (L : List REnt) : Prop := RawMap Try.prog 9 w mb L
def noteV (n : Note) : Value := .agg #[.int .i64 n.1, .int .i64 (n.2 : Int)]
def nent (p : Str × Note) : REnt := (p.1, noteV p.2)
/-- A session and the block of its map. -/
abbrev SB := Nat × Ses
abbrev SBs := List (Str × SB)
def sesV (s : SB) : Value := .agg #[.int .i64 s.2.1, .map (some s.1)]
def sent (p : Str × SB) : REnt := (p.1, sesV p.2)
def absL (X : SBs) : Log := X.map fun p => (p.1, p.2.2)
theorem alook_map {V W : Type} (f : V → W) (X : List (Str × V)) (k : Str) : alook (X.map fun p => (p.1, f p.2)) k = (alook X k).map f := by
  induction X with
  | nil => rfl
  | cons a r ih =>
    rw [List.map_cons, alook_cons, alook_cons, ih]
    by_cases h : a.1 = k
    · rw [if_pos h, if_pos h]; rfl
    · rw [if_neg h, if_neg h]
theorem aput_map' {V W : Type} (f : V → W) (X : List (Str × V)) (k : Str) (v : V) : (aput X k v).map (fun p => (p.1, f p.2)) = aput (X.map fun p => (p.1, f p.2)) k (f v) := by
  unfold aput
  rw [alook_map]
  cases alook X k with
  | none => simp
  | some y =>
    simp only [Option.isSome_some, if_true, Option.map_some, List.map_map]
    apply List.map_congr_left
    intro p _
    by_cases h : p.1 = k <;> simp [h]
theorem auniq_map {V W : Type} {f : V → W} {X : List (Str × V)} : AUniq (X.map fun p => (p.1, f p.2)) ↔ AUniq X := by
  unfold AUniq
  rw [List.pairwise_map]
theorem absL_look (X : SBs) (k : Str) : alook (absL X) k = (alook X k).map Prod.snd := alook_map Prod.snd X k
theorem absL_len (X : SBs) : (absL X).length = X.length := List.length_map _
theorem rlook_sent (X : SBs) (k : Str) : rlook (X.map sent) k = (alook X k).map sesV := alook_map sesV X k
theorem rlook_nent (N : Notes) (k : Str) : rlook (N.map nent) k = (alook N k).map noteV := alook_map noteV N k
theorem rput_nent (N : Notes) (k : Str) (n : Note) : rput (N.map nent) k (noteV n) = (aput N k n).map nent := (aput_map' noteV N k n).symm
theorem rput_sent (X : SBs) (k : Str) (x : SB) : rput (X.map sent) k (sesV x) = (aput X k x).map sent := (aput_map' sesV X k x).symm
/-- What is always so of a notification, of a session, of all. -/
structure Fine (most : Nat) (n : Note) : Prop where
  state : n.1 = 0 ∨ n.1 = 1 ∨ n.1 = 2 ∨ n.1 = 3
  le : n.2 ≤ most
  open_ : n.1 = 0 ∨ n.1 = 1 → n.2 < most
  given : n.1 = 3 → n.2 = most
structure FineS (most : Nat) (x : Ses) : Prop where
  at_ : 0 ≤ x.1 ∧ x.1 ≤ 1099511627776
  uniq : AUniq x.2
  len : x.2.length ≤ 256
  note : ∀ p ∈ x.2, Fine most p.2
  word : ∀ p ∈ x.2, wordB p.1 = true
structure Good (most delay : Nat) (U : Log) : Prop where
  rm : 1 ≤ most ∧ most ≤ 8
  rd : 1 ≤ delay ∧ delay ≤ 3600
  uniq : AUniq U
  len : U.length ≤ 256
  each : ∀ p ∈ U, FineS most p.2
  word : ∀ p ∈ U, wordB p.1 = true
/-- The record in memory: its block lb, the map mb. -/
structure LogAt (w : World) (lb mb most delay : Nat) (X : SBs) : Prop where
  blk : w.heap[lb]? = some (.cells #[.int .i64 (most : Int), .int .i64 (delay : Int), .map (some mb)] 57 (0, 0))
  map : MapS w mb (X.map sent)
  each : ∀ p ∈ X, MapS w p.2.1 (p.2.2.2.map nent)
  apart : X.Pairwise fun p q => p.2.1 ≠ q.2.1
  out : ∀ p ∈ X, p.2.1 ≠ mb
  good : Good most delay (absL X)
def ldom (lb mb : Nat) (X : SBs) : List Nat := lb :: mb :: X.map fun p => p.2.1
theorem ldom_mem {lb mb : Nat} {X : SBs} {i : Nat} : i ∈ ldom lb mb X ↔ i = lb ∨ i = mb ∨ ∃ p ∈ X, p.2.1 = i := by simp [ldom]
theorem LogAt.kept {S : List Nat} {w w' : World} {lb mb most delay : Nat} {X : SBs} (h : LogAt w lb mb most delay X) (k : Kept S w w') (hS : ∀ i ∈ ldom lb mb X, i ∉ S) : LogAt w' lb mb most delay X :=
  ⟨k.at h.blk (hS lb (ldom_mem.2 (.inl rfl))), h.map.kept k (hS mb (ldom_mem.2 (.inr (.inl rfl)))), fun p hp => (h.each p hp).kept k (hS _ (ldom_mem.2 (.inr (.inr ⟨p, hp, rfl⟩)))), h.apart, h.out, h.good⟩
theorem LogAt.keptN {w w' : World} {lb mb most delay : Nat} {X : SBs} (h : LogAt w lb mb most delay X) (k : Kept [] w w') : LogAt w' lb mb most delay X := h.kept k (by simp)
theorem LogAt.lt {w : World} {lb mb most delay : Nat} {X : SBs} (h : LogAt w lb mb most delay X) : ∀ i ∈ ldom lb mb X, i < w.heap.size := by
  intro i hi
  rcases ldom_mem.1 hi with rfl | rfl | ⟨p, hp, rfl⟩
  · exact lt_of_heap h.blk
  · exact h.map.lt
  · exact (h.each p hp).lt
theorem LogAt.lbm {w : World} {lb mb most delay : Nat} {X : SBs} (h : LogAt w lb mb most delay X) : lb ≠ mb := h.map.ne h.blk
theorem LogAt.lbs {w : World} {lb mb most delay : Nat} {X : SBs} (h : LogAt w lb mb most delay X) : ∀ p ∈ X, lb ≠ p.2.1 := fun p hp => (h.each p hp).ne h.blk
theorem LogAt.uniq {w : World} {lb mb most delay : Nat} {X : SBs} (h : LogAt w lb mb most delay X) : AUniq X := by
  have := h.good.uniq
  exact auniq_map.1 this
theorem LogAt.c0 {w : World} {lb mb most delay : Nat} {X : SBs} (h : LogAt w lb mb most delay X) : w.cell? ⟨lb, 0, none⟩ = some (.int .i64 (most : Int)) := by rw [cell_at h.blk]; rfl
theorem LogAt.c1 {w : World} {lb mb most delay : Nat} {X : SBs} (h : LogAt w lb mb most delay X) : w.cell? ⟨lb, 1, none⟩ = some (.int .i64 (delay : Int)) := by rw [cell_at h.blk]; rfl
theorem LogAt.c2 {w : World} {lb mb most delay : Nat} {X : SBs} (h : LogAt w lb mb most delay X) : w.cell? ⟨lb, 2, none⟩ = some (.map (some mb)) := by rw [cell_at h.blk]; rfl
theorem LogAt.len {w : World} {lb mb most delay : Nat} {X : SBs} (h : LogAt w lb mb most delay X) : X.length ≤ 256 := by have := h.good.len; rwa [absL_len] at this
theorem LogAt.fine {w : World} {lb mb most delay : Nat} {X : SBs} (h : LogAt w lb mb most delay X) {p : Str × SB} (hp : p ∈ X) : FineS most p.2.2 := h.good.each (p.1, p.2.2) (List.mem_map.2 ⟨p, hp, rfl⟩)
theorem two_of_mem {X : SBs} (ha : X.Pairwise fun p q => p.2.1 ≠ q.2.1) (hu : AUniq X) : ∀ {p q : Str × SB}, p ∈ X → q ∈ X → p.1 ≠ q.1 → p.2.1 ≠ q.2.1 := by
  induction X with
  | nil => intro p q hp; simp at hp
  | cons a r ih =>
    intro p q hp hq hne
    obtain ⟨a1, a2⟩ := List.pairwise_cons.1 ha
    obtain ⟨u1, u2⟩ := List.pairwise_cons.1 hu
    rcases List.mem_cons.1 hp with e1 | hp'
    · rcases List.mem_cons.1 hq with e2 | hq'
      · rw [e1, e2] at hne; exact absurd rfl hne
      · rw [e1]; exact a1 q hq'
    · rcases List.mem_cons.1 hq with e2 | hq'
      · rw [e2]; exact fun e => a1 p hp' e.symm
      · exact ih a2 u2 hp' hq' hne
theorem apart_put {X : SBs} (ha : X.Pairwise fun p q => p.2.1 ≠ q.2.1) {k : Str} {x x' : SB} (hx : alook X k = some x) (e : x'.1 = x.1) (hu : AUniq X) : (aput X k x').Pairwise fun p q => p.2.1 ≠ q.2.1 := by
  unfold aput
  rw [hx]
  simp only [Option.isSome_some, if_true]
  rw [List.pairwise_map]
  have hmem : ∀ p ∈ X, (if p.1 = k then (k, x') else p).2.1 = p.2.1 := fun p hp => by
    by_cases h : p.1 = k
    · rw [if_pos h]
      have h2 := alook_of_mem hu (show (p.1, p.2) ∈ X from hp)
      rw [h, hx] at h2
      injection h2 with h2
      show x'.1 = p.2.1
      rw [e, h2]
    · rw [if_neg h]
  exact ha.imp_of_mem (fun {a b} h1 h2 hne => by rw [hmem a h1, hmem b h2]; exact hne)
theorem aput_mem3 {V : Type} {X : List (Str × V)} {k : Str} {x : V} {p : Str × V} (h : p ∈ aput X k x) : p = (k, x) ∨ (p ∈ X ∧ p.1 ≠ k) := by
  unfold aput at h
  split at h
  · rw [List.mem_map] at h
    obtain ⟨q, hq, rfl⟩ := h
    by_cases e : q.1 = k
    · rw [if_pos e]; exact .inl rfl
    · rw [if_neg e]; exact .inr ⟨hq, e⟩
  · rename_i hn
    have hl : alook X k = none := by simpa using hn
    rcases List.mem_append.1 h with h | h
    · exact .inr ⟨h, alook_none.1 hl p h⟩
    · exact .inl (List.mem_singleton.1 h)
/-- What a writing call leaves. -/
def Left (w w' : World) (lb mb most delay : Nat) (X : SBs) (U' : Log) : Prop := ∃ X', LogAt w' lb mb most delay X' ∧ absL X' = U' ∧ Kept (ldom lb mb X) w w' ∧ ∀ i ∈ ldom lb mb X', i ∈ ldom lb mb X ∨ w.heap.size ≤ i
theorem Left.same {w w' : World} {lb mb most delay : Nat} {X : SBs} (h : LogAt w lb mb most delay X) (k : Kept [] w w') : Left w w' lb mb most delay X (absL X) :=
  ⟨X, h.keptN k, rfl, k.mono (by simp), fun _ hi => .inl hi⟩
/-- The map of one session has been written. -/
theorem LogAt.upd {w w' : World} {lb mb most delay : Nat} {X : SBs} (h : LogAt w lb mb most delay X) {k : Str} {x : SB} {N : Notes} (hx : alook X k = some x) (kp : Kept [x.1] w w') (hm : MapS w' x.1 (N.map nent)) (hf : FineS most (x.2.1, N)) :
    LogAt w' lb mb most delay (aput X k (x.1, x.2.1, N)) := by
  have hmem := alook_some hx
  have hu := h.uniq
  have hmap : (aput X k (x.1, x.2.1, N)).map sent = X.map sent := by
    rw [← rput_sent]
    unfold rput
    rw [rlook_sent, hx]
    simp only [Option.map_some, Option.isSome_some, if_true, List.map_map]
    apply List.map_congr_left
    intro p hp
    by_cases e : p.1 = k
    · have h2 := alook_of_mem hu (show (p.1, p.2) ∈ X from hp)
      rw [e, hx] at h2
      injection h2 with h2
      show (if p.1 = k then (k, sesV (x.1, x.2.1, N)) else (p.1, sesV p.2)) = (p.1, sesV p.2)
      rw [if_pos e, ← h2, e]; rfl
    · show (if p.1 = k then (k, sesV (x.1, x.2.1, N)) else (p.1, sesV p.2)) = (p.1, sesV p.2)
      rw [if_neg e]
  have habs : absL (aput X k (x.1, x.2.1, N)) = aput (absL X) k (x.2.1, N) := aput_map' Prod.snd X k _
  have hlook : alook (absL X) k = some x.2 := by rw [absL_look, hx]; rfl
  refine ⟨kp.at h.blk (by simpa using h.lbs _ hmem), by rw [hmap]; exact h.map.kept kp (by simpa using fun e => h.out _ hmem e.symm), fun p hp => ?_, apart_put h.apart hx rfl hu, fun p hp => ?_, ?_⟩
  · rcases aput_mem3 hp with rfl | ⟨hq, hne⟩
    · exact hm
    · exact (h.each p hq).kept kp (by simpa using two_of_mem h.apart hu hq hmem hne)
  · rcases aput_mem3 hp with rfl | ⟨hq, hne⟩
    · exact h.out (k, x) hmem
    · exact h.out p hq
  · rw [habs]
    refine ⟨h.good.rm, h.good.rd, aput_uniq h.good.uniq _ _, ?_, fun p hp => ?_, fun p hp => ?_⟩
    · rw [aput_len, hlook]; exact h.good.len
    · rcases aput_mem3 hp with rfl | ⟨hq, hne⟩
      · exact hf
      · exact h.good.each p hq
    · rcases aput_mem3 hp with rfl | ⟨hq, hne⟩
      · show wordB k = true; exact h.good.word (k, x.2) (alook_some hlook)
      · exact h.good.word p hq
theorem LogAt.left {w w' : World} {lb mb most delay : Nat} {X : SBs} (h : LogAt w lb mb most delay X) {k : Str} {x : SB} {N : Notes} (hx : alook X k = some x) (kp : Kept [x.1] w w') (hm : MapS w' x.1 (N.map nent)) (hf : FineS most (x.2.1, N)) :
    Left w w' lb mb most delay X (aput (absL X) k (x.2.1, N)) := by
  refine ⟨_, h.upd hx kp hm hf, aput_map' Prod.snd X k _, kp.mono (fun i hi => ?_), fun i hi => .inl ?_⟩
  · simp at hi; exact .inl (ldom_mem.2 (.inr (.inr ⟨_, alook_some hx, hi.symm⟩)))
  · rcases ldom_mem.1 hi with e | e | ⟨p, hp, e⟩
    · exact ldom_mem.2 (.inl e)
    · exact ldom_mem.2 (.inr (.inl e))
    · rcases aput_mem3 hp with rfl | ⟨hq, hne⟩
      · exact ldom_mem.2 (.inr (.inr ⟨_, alook_some hx, e⟩))
      · exact ldom_mem.2 (.inr (.inr ⟨p, hq, e⟩))
end Go.Proofs.Ytdikijbkfhimoaa
