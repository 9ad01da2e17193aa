/- Scripts of operations, as they lie in memory: opened. -/
import Derived.Test.YtionejokdfgmhaaWf5
namespace Go.Proofs.Ytionejokdfgmhaa
open Go.RowKit Go.Maps Go.ChangeShapes Go.WideShapes Go.ChangeAt

structure OpD where
  kind : Int
  id : Str
  name : Str
  user : Str
  by_ : Str
  steps : List Stp
  groups : List Str
  until_ : Int
  now : Int
  sa : Option Addr
  sc : Nat
  ga : Option Addr
  gc : Nat
def encO (x : OpD) : List Value := [.int .i64 x.kind, sV x.id, sV x.name, sV x.user, sV x.by_, .slice x.sa x.steps.length x.sc, .slice x.ga x.groups.length x.gc, .int .i64 x.until_, .int .i64 x.now]
def OpLists (w : World) (x : OpD) : Prop := StpsAt w x.sa x.steps ∧ StrsAt w x.ga x.groups
theorem OpLists.keptN {w w' : World} {x : OpD} (h : OpLists w x) (k : Kept [] w w') : OpLists w' x := ⟨h.1.keptN k, h.2.keptN k⟩
/-- The operations of a slice. -/
structure OpsAt (w : World) (a : Option Addr) (l : List OpD) : Prop where
  cells : ListAt 9 encO w a l
  lists : ∀ x ∈ l, OpLists w x
theorem OpsAt.keptN {w w' : World} {a : Option Addr} {l : List OpD} (h : OpsAt w a l) (k : Kept [] w w') : OpsAt w' a l := ⟨h.cells.keptN k, fun x hx => (h.lists x hx).keptN k⟩
/-- An operation in nine cells. -/
structure OpCells (w : World) (b o : Nat) (x : OpD) : Prop where
  c0 : w.cell? ⟨b, o, none⟩ = some (.int .i64 x.kind)
  c1 : w.cell? ⟨b, o + 1, none⟩ = some (sV x.id)
  c2 : w.cell? ⟨b, o + 2, none⟩ = some (sV x.name)
  c3 : w.cell? ⟨b, o + 3, none⟩ = some (sV x.user)
  c4 : w.cell? ⟨b, o + 4, none⟩ = some (sV x.by_)
  c5 : w.cell? ⟨b, o + 5, none⟩ = some (.slice x.sa x.steps.length x.sc)
  c6 : w.cell? ⟨b, o + 6, none⟩ = some (.slice x.ga x.groups.length x.gc)
  c7 : w.cell? ⟨b, o + 7, none⟩ = some (.int .i64 x.until_)
  c8 : w.cell? ⟨b, o + 8, none⟩ = some (.int .i64 x.now)
theorem OpsAt.get {w : World} {a : Option Addr} {l : List OpD} (h : OpsAt w a l) {i : Nat} (hi : i < l.length) : ∃ b off, a = some ⟨b, off, none⟩ ∧ b < w.heap.size ∧ OpCells w b (off + i * 9) l[i] ∧ OpLists w l[i] := by
  obtain ⟨b, off, e, hb, hc⟩ := h.cells.at hi
  exact ⟨b, off, e, hb, ⟨by have := hc 0 _ rfl; rwa [Nat.add_zero] at this, hc 1 _ rfl, hc 2 _ rfl, hc 3 _ rfl, hc 4 _ rfl, hc 5 _ rfl, hc 6 _ rfl, hc 7 _ rfl, hc 8 _ rfl⟩, h.lists _ (List.getElem_mem hi)⟩

/-- A slice in a cell. -/
theorem slice_cell {H : Type} {enc : TypeId × Value → H} {w : World} {t e : TypeId} {n : Nat} {c : Value} {y : DataW H × List MemPlace} (ht : Try.prog.underlying t = some (.slice e)) (h : DataW.trod enc Try.prog w 0 (fun _ => true) true n t [c] = some y) : ∃ a len cap, c = .slice a len cap ∧ DataW.Trod enc Try.prog w 0 (fun _ => true) true t (.slice a len cap) y.1 y.2 := by
  have h0 := h
  rcases Deep.open_slice ht h with ⟨hcs, _⟩ | ⟨ad, l, c', m, n', D, Pl, hcs, _⟩
  · simp at hcs
    subst hcs
    exact ⟨none, 0, 0, rfl, n, by simpa [Value.cells] using h0⟩
  · simp at hcs
    subst hcs
    exact ⟨some ad, l, c', rfl, n, by simpa [Value.cells] using h0⟩
set_option maxRecDepth 100000 in
theorem stps_open {H : Type} {enc : TypeId × Value → H} {w : World} {a : Option Addr} {len cap : Nat} {d : DataW H} {p : List MemPlace}
    (h : DataW.Trod enc Try.prog w 0 (fun _ => true) true 35 (.slice a len cap) d p) : ∃ l : List Stp, l.length = len ∧ StpsAt w a l := by
  obtain ⟨h1, h2, h3⟩ := slice_open Try.underlying35 (sz := 2) (by kernel_rfl) (by omega) h
  rcases h3 with h3 | ⟨b, off, ha, hb, hel⟩
  · exact ⟨[], h3.symm, list_nil w a⟩
  · obtain ⟨l, hl, hp⟩ := list_of (α := Stp) (p := fun i x => CEnc encT w b (off + i * 2) x) (fun i hi => by
      obtain ⟨cs, y, n, e1, e2, e3⟩ := hel i hi
      obtain ⟨xs, m, _, _, _, hlen, hf⟩ := DataW.trod_struct Try.underlying44 e3
      have hlen2 : xs.length = 2 := hlen
      have zi : Try.prog.cellsOf 9 = 1 := by kernel_rfl
      have zj : Try.prog.cellsOf 3 = 1 := by kernel_rfl
      have f0 := hf 0 _ rfl
      have f1 := hf 1 _ rfl
      match cs, e1, xs, hlen2 with
      | [c0, c1], _, [x0, x1], _ =>
        obtain ⟨n0, e0, _⟩ := DataW.trod_string Try.underlying9 f0
        obtain ⟨n1, e1, _⟩ := DataW.trod_int Try.underlying3 f1
        have k0 : c0 = .string n0 := by simpa [zi, zj] using e0
        have k1 : c1 = .int .i64 n1 := by simpa [zi, zj] using e1
        refine ⟨(n0.data.toList, n1), fun j v hv => ?_⟩
        have hj : j < 2 := by
          rcases Nat.lt_or_ge j 2 with h1 | h1
          · exact h1
          · rw [List.getElem?_eq_none (by simp [encT]; omega)] at hv; cases hv
        rw [e2 j hj, ← hv, k0, k1]
        simp [encT, sV])
    exact ⟨l, hl, ⟨.inr ⟨b, off, ha, hb, fun i hi => hp i hi⟩, by omega⟩⟩
theorem strs_open {H : Type} {enc : TypeId × Value → H} {w : World} {a : Option Addr} {len cap : Nat} {d : DataW H} {p : List MemPlace}
    (h : DataW.Trod enc Try.prog w 0 (fun _ => true) true 30 (.slice a len cap) d p) : ∃ l : List Str, l.length = len ∧ StrsAt w a l := by
  obtain ⟨h1, h2, h3⟩ := slice_open Try.underlying30 (sz := 1) (by kernel_rfl) (by omega) h
  rcases h3 with h3 | ⟨b, off, ha, hb, hel⟩
  · exact ⟨[], h3.symm, list_nil w a⟩
  · obtain ⟨l, hl, hp⟩ := list_of (α := Str) (p := fun i x => CEnc encS w b (off + i * 1) x) (fun i hi => by
      obtain ⟨cs, y, n, e1, e2, e3⟩ := hel i hi
      match cs, e1 with
      | [c0], _ =>
        obtain ⟨n0, e0, _⟩ := DataW.trod_string Try.underlying9 e3
        have k0 : c0 = .string n0 := by simpa using e0
        refine ⟨n0.data.toList, fun j v hv => ?_⟩
        have hj : j = 0 := by
          rcases Nat.eq_zero_or_pos j with h0 | h0
          · exact h0
          · rw [List.getElem?_eq_none (by simp [encS]; omega)] at hv; cases hv
        subst hj
        rw [e2 0 (by omega), ← hv, k0]
        simp [encS, sV])
    exact ⟨l, hl, ⟨.inr ⟨b, off, ha, hb, fun i hi => hp i hi⟩, by omega⟩⟩
set_option maxRecDepth 100000 in
/-- The nine fields of an operation. -/
theorem op_fields {H : Type} {enc : TypeId × Value → H} {w : World} {n : Nat} {cs : List Value} {y : DataW H × List MemPlace} (hl : cs.length = 9) (h : DataW.trod enc Try.prog w 0 (fun _ => true) true n 37 cs = some y) :
    ∃ x : OpD, cs = encO x ∧ OpLists w x := by
  obtain ⟨xs, m, _, _, _, hlen, hf⟩ := DataW.trod_struct Try.underlying37 h
  have hlen9 : xs.length = 9 := hlen
  have zi : Try.prog.cellsOf 9 = 1 := by kernel_rfl
  have zj : Try.prog.cellsOf 3 = 1 := by kernel_rfl
  have zk : Try.prog.cellsOf 30 = 1 := by kernel_rfl
  have zl : Try.prog.cellsOf 35 = 1 := by kernel_rfl
  have f0 := hf 0 _ rfl
  have f1 := hf 1 _ rfl
  have f2 := hf 2 _ rfl
  have f3 := hf 3 _ rfl
  have f4 := hf 4 _ rfl
  have f5 := hf 5 _ rfl
  have f6 := hf 6 _ rfl
  have f7 := hf 7 _ rfl
  have f8 := hf 8 _ rfl
  match cs, hl, xs, hlen9 with
  | [c0, c1, c2, c3, c4, c5, c6, c7, c8], _, [x0, x1, x2, x3, x4, x5, x6, x7, x8], _ =>
    obtain ⟨n0, e0, _⟩ := DataW.trod_int Try.underlying3 f0
    obtain ⟨n1, e1, _⟩ := DataW.trod_string Try.underlying9 f1
    obtain ⟨n2, e2, _⟩ := DataW.trod_string Try.underlying9 f2
    obtain ⟨n3, e3, _⟩ := DataW.trod_string Try.underlying9 f3
    obtain ⟨n4, e4, _⟩ := DataW.trod_string Try.underlying9 f4
    obtain ⟨n7, e7, _⟩ := DataW.trod_int Try.underlying3 f7
    obtain ⟨n8, e8, _⟩ := DataW.trod_int Try.underlying3 f8
    have k0 : c0 = .int .i64 n0 := by simpa [zj] using e0
    have k1 : c1 = .string n1 := by simpa [zi, zj] using e1
    have k2 : c2 = .string n2 := by simpa [zi, zj] using e2
    have k3 : c3 = .string n3 := by simpa [zi, zj] using e3
    have k4 : c4 = .string n4 := by simpa [zi, zj] using e4
    have k7 : c7 = .int .i64 n7 := by simpa [zi, zj, zk, zl] using e7
    have k8 : c8 = .int .i64 n8 := by simpa [zi, zj, zk, zl] using e8
    have g5 : DataW.trod enc Try.prog w 0 (fun _ => true) true m 35 [c5] = some x5 := by simpa [zi, zj, zk, zl] using f5
    have g6 : DataW.trod enc Try.prog w 0 (fun _ => true) true m 30 [c6] = some x6 := by simpa [zi, zj, zk, zl] using f6
    obtain ⟨sa, sn, sc, rfl, hs⟩ := slice_cell Try.underlying35 g5
    obtain ⟨ga, gn, gc, rfl, hg⟩ := slice_cell Try.underlying30 g6
    obtain ⟨sl, rfl, hsl⟩ := stps_open hs
    obtain ⟨gl, rfl, hgl⟩ := strs_open hg
    exact ⟨⟨n0, n1.data.toList, n2.data.toList, n3.data.toList, n4.data.toList, sl, gl, n7, n8, sa, sc, ga, gc⟩, by rw [k0, k1, k2, k3, k4, k7, k8]; simp [encO, sV], hsl, hgl⟩
theorem ops_open {H : Type} {enc : TypeId × Value → H} {w : World} {a : Option Addr} {len cap : Nat} {d : DataW H} {p : List MemPlace}
    (h : DataW.Trod enc Try.prog w 0 (fun _ => true) true 22 (.slice a len cap) d p) : ∃ l : List OpD, l.length = len ∧ OpsAt w a l := by
  obtain ⟨h1, h2, h3⟩ := slice_open Try.underlying22 (sz := 9) (by kernel_rfl) (by omega) h
  rcases h3 with h3 | ⟨b, off, ha, hb, hel⟩
  · exact ⟨[], h3.symm, list_nil w a, by simp⟩
  · obtain ⟨l, hl, hp⟩ := list_of (α := OpD) (p := fun i x => CEnc encO w b (off + i * 9) x ∧ OpLists w x) (fun i hi => by
      obtain ⟨cs, y, n, e1, e2, e3⟩ := hel i hi
      obtain ⟨x, rfl, hx⟩ := op_fields e1 e3
      refine ⟨x, fun j v hv => ?_, hx⟩
      have hj : j < 9 := by
        rcases Nat.lt_or_ge j 9 with h1 | h1
        · exact h1
        · rw [List.getElem?_eq_none (by simp [encO]; omega)] at hv; cases hv
      rw [e2 j hj, ← hv])
    exact ⟨l, hl, ⟨.inr ⟨b, off, ha, hb, fun i hi => (hp i hi).1⟩, by omega⟩, fun x hx => by obtain ⟨i, hi, rfl⟩ := List.getElem_of_mem hx; exact (hp i hi).2⟩
set_option maxRecDepth 100000 in
/-- An operation handed over by value. -/
theorem op_agg {H : Type} {enc : TypeId × Value → H} {r : Reach} {b0 : Nat} {w : World} {v : Value} {d : DataW H} {p : List MemPlace} (hv : Value.okWide Try.prog w r b0 37 v)
    (h : DataW.Trod enc Try.prog w 0 (fun _ => true) true 37 v d p) : ∃ x : OpD, v = .agg (encO x).toArray ∧ OpLists w x := by
  obtain ⟨cs, rfl, hsz⟩ := okWide_struct Try.underlying37 hv
  have hC : Try.prog.cellsOf 37 = 9 := by kernel_rfl
  obtain ⟨fuel, hf⟩ := h
  have hsz9 : cs.toList.length = 9 := by rw [Array.length_toList, hsz, hC]
  obtain ⟨x, e, hx⟩ := op_fields hsz9 (by simpa [Value.cells] using hf)
  exact ⟨x, by rw [← e], hx⟩
end Go.Proofs.Ytionejokdfgmhaa
