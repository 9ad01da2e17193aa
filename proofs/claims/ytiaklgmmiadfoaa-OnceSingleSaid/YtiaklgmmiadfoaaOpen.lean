/- What comes in, opened: a slice of structs; a struct by value. -/
import Derived.Test.YtiaklgmmiadfoaaOps
import Derived.ProofKit
import Derived.OpenShut
import Derived.ShutString
import Derived.ChangeOld
import Derived.Deep.Slices
import Derived.Lib.SmallJoins
namespace Go.Proofs.Ytiaklgmmiadfoaa
open Go.RowKit Go.ChangeShapes Go.WideShapes Go.ChangeAt
open Go.ChangeMaps (open_string shut_string)

theorem slice_open {H : Type} {enc : TypeId × Value → H} {P : Program} {w : World} {t e : TypeId} {sz : Nat} {a : Option Addr} {len cap : Nat} {d : DataW H} {p : List MemPlace} (ht : P.underlying t = some (.slice e)) (hsz : P.cellsOf e = sz) (hpos : 0 < sz)
    (h : DataW.Trod enc P w 0 (fun _ => true) true t (.slice a len cap) d p) :
    len ≤ cap ∧ cap ≤ maxLen ∧ (len = 0 ∨ ∃ b off, a = some ⟨b, off, none⟩ ∧ b < w.heap.size ∧ ∀ i, i < len → ∃ cs y n, cs.length = sz ∧ (∀ j, j < sz → w.cell? ⟨b, off + i * sz + j, none⟩ = cs[j]?) ∧ DataW.trod enc P w 0 (fun _ => true) true n e cs = some y) := by
  obtain ⟨fuel, hf⟩ := h
  rcases Deep.open_slice ht hf with ⟨hcs, _⟩ | ⟨ad, l, c, m, n, D, Pl, hcs, _, hl, hm, hmm, _, hel⟩
  · simp [Value.cells] at hcs
    obtain ⟨rfl, rfl, rfl⟩ := hcs
    exact ⟨Nat.le_refl _, Nat.zero_le _, .inl rfl⟩
  · simp [Value.cells] at hcs
    obtain ⟨rfl, rfl, rfl⟩ := hcs
    refine ⟨hl, hm, ?_⟩
    by_cases h0 : len = 0
    · exact .inl h0
    · right
      simp only [if_true] at hmm
      obtain ⟨b, off, spot⟩ := ad
      have key : ∀ i, i < len → ∃ cs y n, cs.length = sz ∧ (∀ j, j < sz → w.cell? (((⟨b, off, spot⟩ : Addr).add (i * sz)).add j) = cs[j]?) ∧ DataW.trod enc P w 0 (fun _ => true) true n e cs = some y := by
        intro i hi
        obtain ⟨cs', hc, ht'⟩ := hel i (by omega)
        rw [hsz] at hc
        obtain ⟨_, hlen, hcell⟩ := World.cells?_some hc
        exact ⟨cs', _, n, hlen, hcell, ht'⟩
      obtain ⟨cs0, y0, n0, hl0, hc0, _⟩ := key 0 (by omega)
      have hcell0 := hc0 0 hpos
      have hsome : ∃ v, cs0[0]? = some v := ⟨cs0[0]'(by omega), by simp⟩
      obtain ⟨v0, hv0⟩ := hsome
      rw [hv0] at hcell0
      have hspot : spot = none := by
        have := World.cell?_spot hcell0
        cases spot with
        | none => rfl
        | some x => simp [Addr.add] at this
      subst hspot
      have hadd1 : ∀ o i, (⟨b, o, none⟩ : Addr).add i = ⟨b, o + i, none⟩ := fun o i => by unfold Addr.add; split <;> simp_all
      have hadd : ∀ i j, ((⟨b, off, none⟩ : Addr).add i).add j = ⟨b, off + i + j, none⟩ := fun i j => by rw [hadd1, hadd1]
      refine ⟨b, off, rfl, ?_, ?_⟩
      · rw [hadd] at hcell0
        exact World.block_lt_of_cell? w _ hcell0
      · intro i hi
        obtain ⟨cs, y, n, h1, h2, h3⟩ := key i hi
        exact ⟨cs, y, n, h1, fun j hj => by rw [← hadd]; exact h2 j hj, h3⟩

/-- From 'for every i there is an x' to a list. -/
theorem list_of {α : Type} {n : Nat} {p : Nat → α → Prop} (h : ∀ i, i < n → ∃ x, p i x) : ∃ l : List α, l.length = n ∧ ∀ i (hi : i < l.length), p i l[i] := by
  induction n with
  | zero => exact ⟨[], rfl, fun i hi => by simp at hi⟩
  | succ n ih =>
    obtain ⟨l, hl, hp⟩ := ih (fun i hi => h i (by omega))
    obtain ⟨x, hx⟩ := h n (by omega)
    refine ⟨l ++ [x], by simp [hl], fun i hi => ?_⟩
    by_cases hin : i < l.length
    · rw [List.getElem_append_left hin]; exact hp i hin
    · have e : i = l.length := by simp at hi; omega
      subst e
      simp
      rw [hl]; exact hx

theorem op_open {H : Type} {enc : TypeId × Value → H} {w : World} {b o n : Nat} {cs : List Value} {y : DataW H × List MemPlace} (hl : cs.length = 4) (hc : ∀ j, j < 4 → w.cell? ⟨b, o + j, none⟩ = cs[j]?) (h : DataW.trod enc Try.prog w 0 (fun _ => true) true n 33 cs = some y) :
    ∃ x : OpT, OpCells w b o x ∧ x.id.size ≤ maxLen := by
  obtain ⟨xs, m, _, _, _, hlen, hf⟩ := DataW.trod_struct Try.underlying33 h
  have hlen4 : xs.length = 4 := hlen
  have zi : Try.prog.cellsOf 3 = 1 := by kernel_rfl
  have zs : Try.prog.cellsOf 9 = 1 := by kernel_rfl
  have f0 := hf 0 _ rfl
  have f1 := hf 1 _ rfl
  have f2 := hf 2 _ rfl
  have f3 := hf 3 _ rfl
  match cs, hl, xs, hlen4 with
  | [c0, c1, c2, c3], _, [x0, x1, x2, x3], _ =>
    obtain ⟨n0, e0, _, _⟩ := DataW.trod_int Try.underlying3 f0
    obtain ⟨s1, e1, _, hs1⟩ := DataW.trod_string Try.underlying9 f1
    obtain ⟨n2, e2, _, _⟩ := DataW.trod_int Try.underlying3 f2
    obtain ⟨n3, e3, _, _⟩ := DataW.trod_int Try.underlying3 f3
    have k0 : c0 = .int .i64 n0 := by simpa [zi] using e0
    have k1 : c1 = .string s1 := by simpa [zs] using e1
    have k2 : c2 = .int .i64 n2 := by simpa [zi] using e2
    have k3 : c3 = .int .i64 n3 := by simpa [zi] using e3
    refine ⟨⟨n0, s1, n2, n3⟩, ⟨?_, ?_, ?_, ?_⟩, hs1⟩
    · rw [← k0]; exact hc 0 (by omega)
    · rw [← k1]; exact hc 1 (by omega)
    · rw [← k2]; exact hc 2 (by omega)
    · rw [← k3]; exact hc 3 (by omega)

/-- A script that came in. -/
theorem ops_open {H : Type} {enc : TypeId × Value → H} {w : World} {a : Option Addr} {len cap : Nat} {d : DataW H} {p : List MemPlace}
    (h : DataW.Trod enc Try.prog w 0 (fun _ => true) true 22 (.slice a len cap) d p) : ∃ l : List OpT, l.length = len ∧ OpsAt w a l := by
  obtain ⟨h1, h2, h3⟩ := slice_open Try.underlying22 (sz := 4) (by kernel_rfl) (by omega) h
  rcases h3 with h3 | ⟨b, off, ha, hb, hel⟩
  · exact ⟨[], h3.symm, .inl rfl, by simp, by simp [maxLen]⟩
  · obtain ⟨l, hl, hp⟩ := list_of (α := OpT) (p := fun i x => OpCells w b (off + i * 4) x ∧ x.id.size ≤ maxLen) (fun i hi => by
      obtain ⟨cs, y, n, e1, e2, e3⟩ := hel i hi
      exact op_open e1 e2 e3)
    refine ⟨l, hl, .inr ⟨b, off, ha, hb, fun i hi => (hp i hi).1⟩, fun x hx => ?_, by omega⟩
    obtain ⟨j, hj, rfl⟩ := List.getElem_of_mem hx
    exact (hp j hj).2
end Go.Proofs.Ytiaklgmmiadfoaa
