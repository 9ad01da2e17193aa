/- What all walks of this set share: blocks that are kept, rows of a slice; no program. -/
import Derived.Test.YtdikijbkfhimoaaRows
import Derived.WalkKit
import Derived.WalkSpells
import Derived.WalkLawsBesides
import Derived.Maps.RangeWalk
import Derived.StringKeys
import Derived.Deep.QuietTactic
import Derived.BigQuiet
import Derived.Deep.RegionHeld3
import Derived.StillTailTactics
import Derived.Deep.AppendLies
import Derived.ProofKit
import Derived.OpenShut
import Derived.ShutString
import Derived.ChangeOld
import Derived.Deep.Slices
import Derived.Lib.SmallJoins
namespace Go.Proofs.Ytdikijbkfhimoaa
open Go.RowKit Go.Maps Go.WideShapes

theorem hid {p : Prop} (h : p) : Hid p := h
theorem ret_int {k : IntKind} {a b : Int} (h : a = b) : Ending.returned (.int k a) = .returned (.int k b) := by rw [h]
theorem ret_bool {a b : Bool} (h : a = b) : Ending.returned (.bool a) = .returned (.bool b) := by rw [h]
theorem list_of_le {w w' : World} (h : w = w') : w' = w := h.symm

/-- Rule 6: an instant or a duration, limited. -/
def lim (t : Int) : Int := min (max t 0) 1099511627776
theorem lim_bd (t : Int) : 0 ≤ lim t ∧ lim t ≤ 1099511627776 := by unfold lim; omega
theorem lim_lim (t : Int) : lim (lim t) = lim t := by unfold lim; omega
theorem lim_id (t : Int) (h : 0 ≤ t) (h' : t ≤ 1099511627776) : lim t = t := by unfold lim; omega

/-- Blocks of S may have been written, new ones made; the rest is as it was. -/
structure Kept (S : List Nat) (w w' : World) : Prop where
  os : w'.os = w.os
  tape : w'.tape = w.tape
  output : w'.output = w.output
  size : w.heap.size ≤ w'.heap.size
  block : ∀ k, k < w.heap.size → k ∉ S → w'.heap[k]? = w.heap[k]?
theorem Kept.refl (S : List Nat) (w : World) : Kept S w w := ⟨rfl, rfl, rfl, Nat.le_refl _, fun _ _ _ => rfl⟩
theorem Kept.trans {S T : List Nat} {a b c : World} (h : Kept S a b) (k : Kept T b c) (hs : ∀ i ∈ T, i ∈ S ∨ a.heap.size ≤ i) : Kept S a c :=
  ⟨k.os.trans h.os, k.tape.trans h.tape, k.output.trans h.output, Nat.le_trans h.size k.size, fun i hi hn => (k.block i (Nat.lt_of_lt_of_le hi h.size) (fun hm => by
    rcases hs i hm with h1 | h1
    · exact hn h1
    · omega)).trans (h.block i hi hn)⟩
theorem Kept.mono {S T : List Nat} {a b : World} (h : Kept S a b) (hs : ∀ i ∈ S, i ∈ T ∨ a.heap.size ≤ i) : Kept T a b :=
  ⟨h.os, h.tape, h.output, h.size, fun i hi hn => h.block i hi (fun hm => by
    rcases hs i hm with h1 | h1
    · exact hn h1
    · omega)⟩
theorem Kept.step {S T : List Nat} {a b c : World} (h : Kept S a b) (k : Kept T b c) (hs : ∀ i ∈ T, i ∈ S) : Kept S a c := h.trans k (fun i hi => .inl (hs i hi))
theorem Kept.drew {S : List Nat} {a b : World} (h : Kept S a b) : Kept S a b.drew := ⟨h.os, h.tape, h.output, h.size, h.block⟩
theorem Kept.drewN {S : List Nat} {a b : World} (h : Kept S a b) (n : Nat) : Kept S a (b.drewN n) := ⟨h.os, h.tape, h.output, h.size, h.block⟩
theorem Kept.alloc {S : List Nat} {a b : World} (h : Kept S a b) (o : Obj) : Kept S a (b.alloc o) :=
  h.step (T := []) ⟨rfl, rfl, rfl, by simp, fun k hk _ => Below.heap_alloc _ _ _ hk⟩ (by simp)
theorem Kept.setCell {S : List Nat} {a b : World} (h : Kept S a b) {p : Addr} (hp : p.block ∈ S ∨ a.heap.size ≤ p.block) (u : Value) : Kept S a (b.setCell p u) :=
  h.trans (T := [p.block]) ⟨rfl, rfl, rfl, by simp [World.setCell], fun k hk hn => Below.heap_setCell _ _ _ _ (by simpa using hn)⟩ (by simpa using hp)
theorem Kept.of_grown {w w' : World} {row : Option Nat} (h : w.grownBy w' row) : Kept row.toList w w' :=
  ⟨h.os, h.tape, h.output, h.size, fun k hk hn => h.block k hk (fun e => hn (by simp [← e]))⟩
theorem Kept.grown {S : List Nat} {a b c : World} {row : Option Nat} (h : Kept S a b) (k : b.grownBy c row) (hr : ∀ i, row = some i → i ∈ S ∨ a.heap.size ≤ i) : Kept S a c :=
  h.trans (Kept.of_grown k) (fun i hi => hr i (by simpa using hi))
theorem Kept.below {S : List Nat} {B : Nat} {a b c : World} (h : Below B a b) (k : Kept S b c) (hB : B ≤ b.heap.size) (hs : ∀ i ∈ S, B ≤ i) : Below B a c :=
  h.trans ⟨k.os, k.tape, k.output, k.size, fun i hi => k.block i (by omega) (fun hm => by have := hs i hm; omega)⟩
theorem Kept.toBelow {S : List Nat} {a b : World} (k : Kept S a b) (hs : ∀ i ∈ S, a.heap.size ≤ i) : Below a.heap.size a b :=
  Kept.below (Below.refl _ _) k (Nat.le_refl _) hs
theorem Kept.cell {S : List Nat} {a b : World} (h : Kept S a b) {p : Addr} (hp : p.block < a.heap.size) (hn : p.block ∉ S) : b.cell? p = a.cell? p := World.cell?_of_block (w := a) (h.block _ hp hn)
theorem Kept.frozen {S : List Nat} {a b : World} (h : Kept S a b) {p : Addr} (hp : p.block < a.heap.size) (hn : p.block ∉ S) : b.frozen? p = a.frozen? p := World.frozen?_of_block (w := a) (h.block _ hp hn)
theorem lt_of_heap {w : World} {b : Nat} {o : Obj} (h : w.heap[b]? = some o) : b < w.heap.size := (Array.getElem?_eq_some_iff.1 h).1
theorem Kept.at {S : List Nat} {a b : World} (h : Kept S a b) {i : Nat} {o : Obj} (hi : a.heap[i]? = some o) (hn : i ∉ S) : b.heap[i]? = some o := (h.block i (lt_of_heap hi) hn).trans hi
theorem Kept.ownsMap {S : List Nat} {w w' : World} {P : Program} {k : TypeId} {H : Type} {R : Value → Option (DataW H × List MemPlace)} {b n : Nat} {D : DataW H} (h : Kept S w w') (ho : w.ownsMap P k R b n D) (hn : b ∉ S) : w'.ownsMap P k R b n D := by
  obtain ⟨es, clock, hb, F, hs, hD⟩ := ho
  exact ⟨es, clock, h.at hb hn, F, hs, hD⟩

/-- A block of cells, known whole: its cells and marks. -/
theorem cell_at {w : World} {b : Nat} {cs : Array Value} {t : TypeId} {fz : Nat × Nat} (h : w.heap[b]? = some (.cells cs t fz)) (i : Nat) : w.cell? ⟨b, i, none⟩ = cs[i]? := by
  simp [World.cell?, h]
theorem free_at {w : World} {b : Nat} {cs : Array Value} {t : TypeId} (h : w.heap[b]? = some (.cells cs t (0, 0))) (i : Nat) : w.frozen? ⟨b, i, none⟩ = false := by
  simp [World.frozen?, h]

/-! ### slices -/
/-- The blocks of a slice. -/
def fp : Option Addr → List Nat
  | some a => [a.block]
  | none => []
/-- An owned row that is not empty: where it lies. -/
theorem row_some {w : World} {e : TypeId} {sz : Nat} {a : Option Addr} {n cap : Nat} {xs : List Value} (h : w.ownsRow 0 e sz (.slice a n cap) n xs) (hn : 0 < n) :
    ∃ g cur, a = some ⟨g, 0, none⟩ ∧ w.heap[g]? = some (.cells cur e (0, 0)) ∧ n ≤ cap ∧ cap ≤ maxLen ∧ cur.size = cap * sz ∧ cur.toList.take (n * sz) = xs := by
  rcases h.2 with ⟨h1, h2⟩ | ⟨g, cap', cur, hv, _, hg, h1, h2, h3, h4⟩
  · omega
  · injection hv with e1 e2 e3
    subst e3
    exact ⟨g, cur, e1, hg, h1, h2, h3, h4⟩
theorem row_cell {w : World} {e : TypeId} {sz : Nat} {g n cap : Nat} {xs : List Value} (h : w.ownsRow 0 e sz (.slice (some ⟨g, 0, none⟩) n cap) n xs) {j : Nat} {u : Value} (hu : xs[j]? = some u) : w.cell? ⟨g, j, none⟩ = some u := by
  have := h.cells (g := g) rfl j u hu
  rwa [show (⟨g, 0, none⟩ : Addr).add j = ⟨g, j, none⟩ from by unfold Addr.add; split <;> simp_all] at this
theorem ownBlock_fp (a : Option Addr) (n cap : Nat) : (Value.slice a n cap).ownBlock.toList = fp a := by cases a <;> rfl
theorem ownBlock_mem {a : Option Addr} {n cap i : Nat} (h : (Value.slice a n cap).ownBlock = some i) : i ∈ fp a := by
  rw [← ownBlock_fp a n cap, h]; simp
theorem row_drewN {w : World} {b : Nat} {e : TypeId} {sz : Nat} {v : Value} {n : Nat} {xs : List Value} (h : w.ownsRow b e sz v n xs) (m : Nat) : (w.drewN m).ownsRow b e sz v n xs := h

theorem row_blk {w : World} {e : TypeId} {sz : Nat} {a : Option Addr} {n cap : Nat} {xs : List Value} (h : w.ownsRow 0 e sz (.slice a n cap) n xs) : ∀ i ∈ fp a, ∃ cur, w.heap[i]? = some (.cells cur e (0, 0)) := by
  intro i hi
  rcases h.2 with ⟨h1, h2⟩ | ⟨g, cap', cur, hv, _, hg, _⟩
  · injection h1 with e1; subst e1; simp [fp] at hi
  · injection hv with e1; subst e1
    simp only [fp, List.mem_singleton] at hi
    subst hi
    exact ⟨cur, hg⟩
theorem row_kept {S : List Nat} {w w' : World} {e : TypeId} {sz : Nat} {a : Option Addr} {n cap : Nat} {xs : List Value} (h : w.ownsRow 0 e sz (.slice a n cap) n xs) (k : Kept S w w') (hS : ∀ i ∈ fp a, i ∉ S) : w'.ownsRow 0 e sz (.slice a n cap) n xs := by
  refine ⟨h.1, ?_⟩
  rcases h.2 with hn | ⟨g, cap', cur, hv, hb, hg, rest⟩
  · exact .inl hn
  · have hv' := hv
    injection hv with e1
    exact .inr ⟨g, cap', cur, hv', hb, k.at hg (hS g (by rw [e1]; simp [fp])), rest⟩


/-- A list in memory: element i at off + i * sz, as C says. -/
structure SeqAt {α : Type} (sz : Nat) (C : World → Nat → Nat → α → Prop) (w : World) (a : Option Addr) (l : List α) : Prop where
  cells : l = [] ∨ ∃ b off, a = some ⟨b, off, none⟩ ∧ b < w.heap.size ∧ ∀ i (h : i < l.length), C w b (off + i * sz) l[i]
  few : l.length ≤ maxLen
theorem SeqAt.at {α : Type} {sz : Nat} {C : World → Nat → Nat → α → Prop} {w : World} {a : Option Addr} {l : List α} (h : SeqAt sz C w a l) {i : Nat} (hi : i < l.length) : ∃ b off, a = some ⟨b, off, none⟩ ∧ b < w.heap.size ∧ C w b (off + i * sz) l[i] := by
  rcases h.cells with rfl | ⟨b, off, rfl, hb, hc⟩
  · simp at hi
  · exact ⟨b, off, rfl, hb, hc i hi⟩
/-- What C says of a block stays while the block is kept. -/
def Lasts {α : Type} (C : World → Nat → Nat → α → Prop) : Prop := ∀ (S : List Nat) (w w' : World) (b o : Nat) (x : α), C w b o x → Kept S w w' → b < w.heap.size → b ∉ S → C w' b o x
theorem SeqAt.kept {α : Type} {sz : Nat} {C : World → Nat → Nat → α → Prop} {S : List Nat} {w w' : World} {a : Option Addr} {l : List α} (h : SeqAt sz C w a l) (hC : Lasts C) (k : Kept S w w') (hS : 0 < l.length → ∀ x, a = some x → x.block ∉ S) : SeqAt sz C w' a l := by
  refine ⟨?_, h.few⟩
  rcases Nat.eq_zero_or_pos l.length with h0 | h0
  · exact .inl (List.length_eq_zero_iff.1 h0)
  rcases h.cells with hn | ⟨b, off, rfl, hb, hc⟩
  · exact .inl hn
  · exact .inr ⟨b, off, rfl, Nat.lt_of_lt_of_le hb k.size, fun i hi => hC S w w' b _ _ (hc i hi) k hb (hS h0 _ rfl)⟩
theorem SeqAt.old {α : Type} {sz : Nat} {C : World → Nat → Nat → α → Prop} {w : World} {a : Option Addr} {l : List α} (h : SeqAt sz C w a l) {m : Nat} (hm : w.heap.size ≤ m) : 0 < l.length → ∀ x, a = some x → x.block ≠ m := by
  intro hi
  obtain ⟨b, off, rfl, hb, _⟩ := h.at hi
  intro x hx
  injection hx with hx
  subst hx
  exact fun e => by simp at e; omega
theorem SeqAt.lt {α : Type} {sz : Nat} {C : World → Nat → Nat → α → Prop} {w : World} {a : Option Addr} {l : List α} (h : SeqAt sz C w a l) : 0 < l.length → ∀ x, a = some x → x.block < w.heap.size := by
  intro hi
  obtain ⟨b, off, rfl, hb, _⟩ := h.at hi
  intro x hx
  injection hx with hx
  subst hx
  exact hb
/-- A part of a list. -/
theorem SeqAt.part {α : Type} {sz : Nat} {C : World → Nat → Nat → α → Prop} {w : World} {b off : Nat} {l : List α} (h : SeqAt sz C w (some ⟨b, off, none⟩) l) (i j : Nat) : SeqAt sz C w (some ⟨b, off + i * sz, none⟩) ((l.take j).drop i) := by
  refine ⟨?_, Nat.le_trans (by simp; omega) h.few⟩
  rcases h.cells with rfl | ⟨b', off', e, hb, hc⟩
  · left; simp
  · injection e with e; injection e with e1 e2
    subst e1; subst e2
    refine .inr ⟨b, _, rfl, hb, fun k hk => ?_⟩
    have hk' : i + k < l.length := by simp at hk; omega
    have := hc (i + k) hk'
    rw [show off + i * sz + k * sz = off + (i + k) * sz by rw [Nat.add_mul]; omega]
    simpa using this

open Go.ChangeShapes Go.ChangeAt
theorem slice_open {H : Type} {enc : TypeId × Value → H} {P : Program} {w : World} {t e : TypeId} {sz : Nat} {a : Option Addr} {len cap : Nat} {d : DataW H} {p : List MemPlace} (ht : P.underlying t = some (.slice e)) (hsz : P.cellsOf e = sz) (hpos : 0 < sz)
    (h : DataW.Trod enc P w 0 (fun _ => true) true t (.slice a len cap) d p) :
    len ≤ cap ∧ cap ≤ maxLen ∧ (len = 0 ∨ ∃ b off, a = some ⟨b, off, none⟩ ∧ b < w.heap.size ∧ ∀ i, i < len → ∃ cs y n, cs.length = sz ∧ (∀ j, j < sz → w.cell? ⟨b, off + i * sz + j, none⟩ = cs[j]?) ∧ DataW.trod enc P w 0 (fun _ => true) true n e cs = some y) := by
  obtain ⟨fuel, hf⟩ := h
  rcases Deep.open_slice ht hf with ⟨hcs, _⟩ | ⟨ad, l, c, m, n, D, Pl, hcs, _, hl, hm, hmm, _, hel⟩
  · simp [Value.cells] at hcs
    obtain ⟨rfl, rfl, rfl⟩ := hcs
    exact ⟨Nat.le_refl _, Nat.zero_le _, .inl rfl⟩
  · simp [Value.cells] at hcs
    obtain ⟨rfl, rfl, rfl⟩ := hcs
    refine ⟨hl, hm, ?_⟩
    by_cases h0 : len = 0
    · exact .inl h0
    · right
      simp only [if_true] at hmm
      obtain ⟨b, off, spot⟩ := ad
      have key : ∀ i, i < len → ∃ cs y n, cs.length = sz ∧ (∀ j, j < sz → w.cell? (((⟨b, off, spot⟩ : Addr).add (i * sz)).add j) = cs[j]?) ∧ DataW.trod enc P w 0 (fun _ => true) true n e cs = some y := by
        intro i hi
        obtain ⟨cs', hc, ht'⟩ := hel i (by omega)
        rw [hsz] at hc
        obtain ⟨_, hlen, hcell⟩ := World.cells?_some hc
        exact ⟨cs', _, n, hlen, hcell, ht'⟩
      obtain ⟨cs0, y0, n0, hl0, hc0, _⟩ := key 0 (by omega)
      have hcell0 := hc0 0 hpos
      have hsome : ∃ v, cs0[0]? = some v := ⟨cs0[0]'(by omega), by simp⟩
      obtain ⟨v0, hv0⟩ := hsome
      rw [hv0] at hcell0
      have hspot : spot = none := by
        have := World.cell?_spot hcell0
        cases spot with
        | none => rfl
        | some x => simp [Addr.add] at this
      subst hspot
      have hadd1 : ∀ o i, (⟨b, o, none⟩ : Addr).add i = ⟨b, o + i, none⟩ := fun o i => by unfold Addr.add; split <;> simp_all
      have hadd : ∀ i j, ((⟨b, off, none⟩ : Addr).add i).add j = ⟨b, off + i + j, none⟩ := fun i j => by rw [hadd1, hadd1]
      refine ⟨b, off, rfl, ?_, ?_⟩
      · rw [hadd] at hcell0
        exact World.block_lt_of_cell? w _ hcell0
      · intro i hi
        obtain ⟨cs, y, n, h1, h2, h3⟩ := key i hi
        exact ⟨cs, y, n, h1, fun j hj => by rw [← hadd]; exact h2 j hj, h3⟩

/-- From 'for every i there is an x' to a list. -/
theorem list_of {α : Type} {n : Nat} {p : Nat → α → Prop} (h : ∀ i, i < n → ∃ x, p i x) : ∃ l : List α, l.length = n ∧ ∀ i (hi : i < l.length), p i l[i] := by
  induction n with
  | zero => exact ⟨[], rfl, fun i hi => by simp at hi⟩
  | succ n ih =>
    obtain ⟨l, hl, hp⟩ := ih (fun i hi => h i (by omega))
    obtain ⟨x, hx⟩ := h n (by omega)
    refine ⟨l ++ [x], by simp [hl], fun i hi => ?_⟩
    by_cases hin : i < l.length
    · rw [List.getElem_append_left hin]; exact hp i hin
    · have e : i = l.length := by simp at hi; omega
      subst e
      simp
      rw [hl]; exact hx

end Go.Proofs.Ytdikijbkfhimoaa
