/- Scripts of calls, as they lie in memory: opened; few. -/
import Derived.Test.YtdikijbkfhimoaaAlive
namespace Go.Proofs.Ytdikijbkfhimoaa
open Go.RowKit Go.Maps Go.ChangeShapes Go.WideShapes Go.ChangeAt

/-- A call. -/
structure OpD where
  kind : Int
  id : Str
  cl : Str
  list : List Str
  now : Int
  ca : Option Addr
  cc : Nat
def encO (x : OpD) : List Value := [.int .i64 x.kind, sV x.id, sV x.cl, .slice x.ca x.list.length x.cc, .int .i64 x.now]
/-- Its list. -/
structure OpL (w : World) (x : OpD) : Prop where
  at_ : StrsAt w x.ca x.list
  cap : x.list.length ≤ x.cc
/-- The calls of a slice. -/
structure OpsAt (w : World) (a : Option Addr) (l : List OpD) : Prop where
  cells : ListAt 5 encO w a l
  lists : ∀ x ∈ l, OpL w x
theorem OpL.keptN {w w' : World} {x : OpD} (h : OpL w x) (k : Kept [] w w') : OpL w' x := ⟨h.at_.keptN k, h.cap⟩
theorem OpsAt.keptN {w w' : World} {a : Option Addr} {l : List OpD} (h : OpsAt w a l) (k : Kept [] w w') : OpsAt w' a l := ⟨h.cells.keptN k, fun x hx => (h.lists x hx).keptN k⟩
/-- A call in five cells. -/
structure OpCells (w : World) (b o : Nat) (x : OpD) : Prop where
  c0 : w.cell? ⟨b, o, none⟩ = some (.int .i64 x.kind)
  c1 : w.cell? ⟨b, o + 1, none⟩ = some (.string ⟨x.id.toArray⟩)
  c2 : w.cell? ⟨b, o + 2, none⟩ = some (.string ⟨x.cl.toArray⟩)
  c3 : w.cell? ⟨b, o + 3, none⟩ = some (.slice x.ca x.list.length x.cc)
  c4 : w.cell? ⟨b, o + 4, none⟩ = some (.int .i64 x.now)
theorem OpsAt.get {w : World} {a : Option Addr} {l : List OpD} (h : OpsAt w a l) {i : Nat} (hi : i < l.length) : ∃ b off, a = some ⟨b, off, none⟩ ∧ b < w.heap.size ∧ OpCells w b (off + i * 5) l[i] ∧ OpL w l[i] := by
  obtain ⟨b, off, e, hb, hc⟩ := h.cells.at hi
  exact ⟨b, off, e, hb, ⟨by have := hc 0 _ rfl; rwa [Nat.add_zero] at this, hc 1 _ rfl, hc 2 _ rfl, hc 3 _ rfl, hc 4 _ rfl⟩, h.lists _ (List.getElem_mem hi)⟩
/-- A slice in a cell. -/
theorem slice_cell {H : Type} {enc : TypeId × Value → H} {w : World} {t e : TypeId} {n : Nat} {c : Value} {y : DataW H × List MemPlace} (ht : Try.prog.underlying t = some (.slice e)) (h : DataW.trod enc Try.prog w 0 (fun _ => true) true n t [c] = some y) : ∃ a len cap, c = .slice a len cap ∧ DataW.Trod enc Try.prog w 0 (fun _ => true) true t (.slice a len cap) y.1 y.2 := by
  have h0 := h
  rcases Deep.open_slice ht h with ⟨hcs, _⟩ | ⟨ad, l, c', m, n', D, Pl, hcs, _⟩
  · simp at hcs
    subst hcs
    exact ⟨none, 0, 0, rfl, n, by simpa [Value.cells] using h0⟩
  · simp at hcs
    subst hcs
    exact ⟨some ad, l, c', rfl, n, by simpa [Value.cells] using h0⟩
theorem strs_open {H : Type} {enc : TypeId × Value → H} {w : World} {a : Option Addr} {len cap : Nat} {d : DataW H} {p : List MemPlace}
    (h : DataW.Trod enc Try.prog w 0 (fun _ => true) true 32 (.slice a len cap) d p) : ∃ l : List Str, l.length = len ∧ StrsAt w a l ∧ len ≤ cap := by
  obtain ⟨h1, h2, h3⟩ := slice_open Try.underlying32 (sz := 1) (by kernel_rfl) (by omega) h
  rcases h3 with h3 | ⟨b, off, ha, hb, hel⟩
  · exact ⟨[], h3.symm, list_nil w a, h1⟩
  · obtain ⟨l, hl, hp⟩ := list_of (α := Str) (p := fun i x => CEnc encS w b (off + i * 1) x) (fun i hi => by
      obtain ⟨cs, y, n, e1, e2, e3⟩ := hel i hi
      match cs, e1 with
      | [c0], _ =>
        obtain ⟨n0, e0, _⟩ := DataW.trod_string Try.underlying9 e3
        have k0 : c0 = .string n0 := by simpa using e0
        refine ⟨n0.data.toList, fun j v hv => ?_⟩
        have hj : j = 0 := by
          rcases Nat.eq_zero_or_pos j with h0 | h0
          · exact h0
          · rw [List.getElem?_eq_none (by simp [encS]; omega)] at hv; cases hv
        subst hj
        rw [e2 0 (by omega), ← hv, k0]
        simp [encS, sV])
    exact ⟨l, hl, ⟨.inr ⟨b, off, ha, hb, fun i hi => hp i hi⟩, by omega⟩, h1⟩
set_option maxRecDepth 100000 in
/-- The five fields of a call. -/
theorem op_fields {H : Type} {enc : TypeId × Value → H} {w : World} {n : Nat} {cs : List Value} {y : DataW H × List MemPlace} (hl : cs.length = 5) (h : DataW.trod enc Try.prog w 0 (fun _ => true) true n 34 cs = some y) :
    ∃ x : OpD, cs = encO x ∧ OpL w x := by
  obtain ⟨xs, m, _, _, _, hlen, hf⟩ := DataW.trod_struct Try.underlying34 h
  have hlen5 : xs.length = 5 := hlen
  have zi : Try.prog.cellsOf 9 = 1 := by kernel_rfl
  have zj : Try.prog.cellsOf 3 = 1 := by kernel_rfl
  have zl : Try.prog.cellsOf 32 = 1 := by kernel_rfl
  have f0 := hf 0 _ rfl
  have f1 := hf 1 _ rfl
  have f2 := hf 2 _ rfl
  have f3 := hf 3 _ rfl
  have f4 := hf 4 _ rfl
  match cs, hl, xs, hlen5 with
  | [c0, c1, c2, c3, c4], _, [x0, x1, x2, x3, x4], _ =>
    obtain ⟨n0, e0, _⟩ := DataW.trod_int Try.underlying3 f0
    obtain ⟨n1, e1, _⟩ := DataW.trod_string Try.underlying9 f1
    obtain ⟨n2, e2, _⟩ := DataW.trod_string Try.underlying9 f2
    obtain ⟨n4, e4, _⟩ := DataW.trod_int Try.underlying3 f4
    have k0 : c0 = .int .i64 n0 := by simpa [zj] using e0
    have k1 : c1 = .string n1 := by simpa [zi, zj] using e1
    have k2 : c2 = .string n2 := by simpa [zi, zj] using e2
    have k4 : c4 = .int .i64 n4 := by simpa [zi, zj, zl] using e4
    have g3 : DataW.trod enc Try.prog w 0 (fun _ => true) true m 32 [c3] = some x3 := by simpa [zi, zj, zl] using f3
    obtain ⟨sa, sn, sc, rfl, hs⟩ := slice_cell Try.underlying32 g3
    obtain ⟨sl, rfl, hsl, hc⟩ := strs_open hs
    exact ⟨⟨n0, n1.data.toList, n2.data.toList, sl, n4, sa, sc⟩, by rw [k0, k1, k2, k4]; simp [encO, sV], hsl, hc⟩
theorem ops_open {H : Type} {enc : TypeId × Value → H} {w : World} {a : Option Addr} {len cap : Nat} {d : DataW H} {p : List MemPlace}
    (h : DataW.Trod enc Try.prog w 0 (fun _ => true) true 22 (.slice a len cap) d p) : ∃ l : List OpD, l.length = len ∧ OpsAt w a l := by
  obtain ⟨h1, h2, h3⟩ := slice_open Try.underlying22 (sz := 5) (by kernel_rfl) (by omega) h
  rcases h3 with h3 | ⟨b, off, ha, hb, hel⟩
  · exact ⟨[], h3.symm, list_nil w a, by simp⟩
  · obtain ⟨l, hl, hp⟩ := list_of (α := OpD) (p := fun i x => CEnc encO w b (off + i * 5) x ∧ OpL w x) (fun i hi => by
      obtain ⟨cs, y, n, e1, e2, e3⟩ := hel i hi
      obtain ⟨x, rfl, hx⟩ := op_fields e1 e3
      refine ⟨x, fun j v hv => ?_, hx⟩
      have hj : j < 5 := by
        rcases Nat.lt_or_ge j 5 with h1 | h1
        · exact h1
        · rw [List.getElem?_eq_none (by simp [encO]; omega)] at hv; cases hv
      rw [e2 j hj, ← hv])
    exact ⟨l, hl, ⟨.inr ⟨b, off, ha, hb, fun i hi => (hp i hi).1⟩, by omega⟩, fun x hx => by obtain ⟨i, hi, rfl⟩ := List.getElem_of_mem hx; exact (hp i hi).2⟩
set_option maxRecDepth 100000 in
/-- An operation handed over by value. -/
theorem op_agg {H : Type} {enc : TypeId × Value → H} {r : Reach} {b0 : Nat} {w : World} {v : Value} {d : DataW H} {p : List MemPlace} (hv : Value.okWide Try.prog w r b0 34 v)
    (h : DataW.Trod enc Try.prog w 0 (fun _ => true) true 34 v d p) : ∃ x : OpD, v = .agg (encO x).toArray ∧ OpL w x := by
  obtain ⟨cs, rfl, hsz⟩ := okWide_struct Try.underlying34 hv
  have hC : Try.prog.cellsOf 34 = 5 := by kernel_rfl
  obtain ⟨fuel, hf⟩ := h
  have hsz9 : cs.toList.length = 5 := by rw [Array.length_toList, hsz, hC]
  obtain ⟨x, e, hx⟩ := op_fields hsz9 (by simpa [Value.cells] using hf)
  exact ⟨x, by rw [← e], hx⟩

/-! ### few -/
def shortB (l : List Str) : Bool := l.all (fun c => decide (c.length ≤ 100)) && decide (l.length ≤ 10)
def okO (x : OpD) : Bool := shortB [x.id, x.cl] && shortB x.list
def fewB (l : List OpD) : Bool := l.all okO && decide (l.length ≤ 25)
def ShortTo (l : List Str) (k : Nat) : Prop := ∀ j (_ : j < k) (hj : j < l.length), l[j].length ≤ 100
theorem shortB_no {l : List Str} {k : Nat} (hk : k < l.length) (h : 100 < l[k].length) : shortB l = false := by
  unfold shortB
  rw [Bool.and_eq_false_iff]
  left
  rw [List.all_eq_false]
  exact ⟨_, List.getElem_mem hk, by simp; omega⟩
theorem shortB_end {l : List Str} (h : ShortTo l l.length) : shortB l = decide (l.length ≤ 10) := by
  unfold shortB
  have : l.all (fun c => decide (c.length ≤ 100)) = true := by
    rw [List.all_eq_true]
    intro c hc
    obtain ⟨i, hi, rfl⟩ := List.getElem_of_mem hc
    simpa using h i hi hi
  rw [this, Bool.true_and]
set_option maxHeartbeats 1000000 in
theorem short_any {w : World} {a : Option Addr} {cap : Nat} {l : List Str} (h : StrsAt w a l) :
    Calls Try.prog 30 #[.slice a l.length cap] w fun e w' => e = .returned (.bool (shortB l)) ∧ w = w' := by
  have hf := h.few
  unfold maxLen at hf
  go_enter Try.func30, Try.ntmps30
  go_wp2_with fail
  go_loop [3] (fun i => ∃ k : Nat, k ≤ l.length ∧ i = .int .i64 (k : Int) ∧ Hid (ShortTo l k)) (fun i => l.length - (intOf i).toNat)
  case atStart => exact ⟨0, Nat.zero_le _, rfl, hid (fun j hj => by omega)⟩
  case round =>
    obtain ⟨k, hk, rfl, HT⟩ := hrel
    by_cases hlt : k < l.length
    · obtain ⟨b, off, rfl, hb, hc⟩ := h.get hlt
      unfold sV at hc
      have hb1 : (0 : Int) ≤ k := by omega
      have hb2 : (k : Int) < l.length := by omega
      have HNO := hid (fun (h : 100 < l[k].length) => shortB_no hlt h)
      have HYES := hid (fun (h : l[k].length ≤ 100) => show ShortTo l (k + 1) from fun j hj hjl => by
        by_cases e : j = k
        · subst e; exact h
        · exact HT.out j (by omega) hjl)
      have hsz : (⟨(l[k]).toArray⟩ : ByteArray).size = l[k].length := by simp [ByteArray.size]
      generalize l[k] = c at *
      by_cases hbig : 100 < c.length
      · have E := hid (HNO.out hbig)
        have hb3 : (100 : Int) < (c.length : Int) := by omega
        clear hsz hbig
        go_wp2_with fail
        go_ret
        exact ⟨ret_bool E.out.symm, rfl⟩
      · have E := hid (HYES.out (by omega))
        have hb4 : (c.length : Int) ≤ 100 := by omega
        clear hsz hbig
        go_wp2_with fail
        go_round
        case rel => exact ⟨k + 1, by omega, by go_num, E⟩
        case measure => simp [intOf]; omega
    · obtain rfl : k = l.length := by omega
      have E := hid (shortB_end HT.out)
      go_wp2_with fail
      go_ret
      exact ⟨ret_bool (by rw [E.out]; exact decide_eq_decide.2 (by omega)), rfl⟩
end Go.Proofs.Ytdikijbkfhimoaa
