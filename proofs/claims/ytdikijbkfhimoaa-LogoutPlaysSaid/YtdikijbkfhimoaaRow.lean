/- Lists in rows of a slice, whatever the elements: read, owned, grown. No program. -/
import Derived.Test.YtdikijbkfhimoaaBase
import Derived.Maps.AppendAt
namespace Go.Proofs.Ytdikijbkfhimoaa
open Go.RowKit Go.Maps Go.WideShapes

/-- How an element lies: its cells. -/
structure Enc {α : Type} (P : Program) (E : TypeId) (sz bytes : Nat) (enc : α → List Value) : Prop where
  len : ∀ x, (enc x).length = sz
  one : ∀ x, ∀ v ∈ enc x, v.oneCell' = true
  pos : 0 < sz
  small : bytes ≤ 4096
  info : ∃ i z, P.info? E = some i ∧ i.zero = some z ∧ i.size = sz ∧ i.bytes = bytes ∧ z.cells.size = sz
def CEnc {α : Type} (enc : α → List Value) (w : World) (b o : Nat) (x : α) : Prop := ∀ (j : Nat) (v : Value), (enc x)[j]? = some v → w.cell? ⟨b, o + j, none⟩ = some v
theorem CEnc.lasts {α : Type} {enc : α → List Value} : Lasts (CEnc enc) := by
  intro S w w' b o x h k hb hS j v hv
  rw [k.cell hb hS]
  exact h j v hv
abbrev ListAt {α : Type} (sz : Nat) (enc : α → List Value) (w : World) (a : Option Addr) (l : List α) : Prop := SeqAt sz (CEnc enc) w a l
def rowV {α : Type} (enc : α → List Value) (l : List α) : List Value := l.flatMap enc

section
variable {α : Type} {P : Program} {E : TypeId} {sz bytes : Nat} {enc : α → List Value}
theorem rowV_len (h : Enc P E sz bytes enc) (l : List α) : (rowV enc l).length = l.length * sz := by
  induction l with
  | nil => simp [rowV]
  | cons x r ih =>
    show (enc x ++ rowV enc r).length = (r.length + 1) * sz
    rw [List.length_append, h.len, ih, Nat.succ_mul, Nat.add_comm]
theorem rowV_get (h : Enc P E sz bytes enc) (l : List α) (i j : Nat) (hi : i < l.length) (hj : j < sz) : (rowV enc l)[i * sz + j]? = (enc l[i])[j]? := by
  induction l generalizing i with
  | nil => simp at hi
  | cons x r ih =>
    show (enc x ++ rowV enc r)[i * sz + j]? = _
    cases i with
    | zero =>
      rw [Nat.zero_mul, Nat.zero_add, List.getElem?_append_left (by rw [h.len]; exact hj)]
      rfl
    | succ i =>
      rw [List.getElem?_append_right (by rw [h.len, Nat.succ_mul]; omega), h.len, show (i + 1) * sz + j - sz = i * sz + j by rw [Nat.succ_mul]; omega]
      exact ih i (by simpa using hi)
theorem rowV_app (l m : List α) : rowV enc (l ++ m) = rowV enc l ++ rowV enc m := by simp [rowV]
theorem rowV_one (h : Enc P E sz bytes enc) (l : List α) : ∀ u ∈ rowV enc l, u.oneCell' = true := by
  intro u hu
  obtain ⟨p, _, hp⟩ := List.mem_flatMap.1 hu
  exact h.one p u hp
theorem rowV_take (h : Enc P E sz bytes enc) (l : List α) (i : Nat) : (rowV enc l).take (i * sz) = rowV enc (l.take i) := by
  induction l generalizing i with
  | nil => simp [rowV]
  | cons x r ih =>
    cases i with
    | zero => simp [rowV]
    | succ i =>
      show (enc x ++ rowV enc r).take ((i + 1) * sz) = enc x ++ rowV enc (r.take i)
      rw [List.take_append, h.len, List.take_of_length_le (by rw [h.len, Nat.succ_mul]; omega), show (i + 1) * sz - sz = i * sz by rw [Nat.succ_mul]; omega, ih]
theorem add_none (b o j : Nat) : (⟨b, o, none⟩ : Addr).add j = ⟨b, o + j, none⟩ := by unfold Addr.add; split <;> simp_all
theorem list_news (h : Enc P E sz bytes enc) {w : World} {ad : Addr} {l : List α} (hl : ListAt sz enc w (some ad) l) : ∀ j u, (rowV enc l)[j]? = some u → w.cell? (ad.add j) = some u := by
  intro j u hu
  have hj : j < l.length * sz := by
    rcases Nat.lt_or_ge j (l.length * sz) with h1 | h1
    · exact h1
    · rw [List.getElem?_eq_none (by rw [rowV_len h]; exact h1)] at hu; cases hu
  have hpos := h.pos
  have hi : j / sz < l.length := (Nat.div_lt_iff_lt_mul hpos).2 hj
  have hm : j % sz < sz := Nat.mod_lt _ hpos
  have hjj : j / sz * sz + j % sz = j := by rw [Nat.mul_comm]; exact Nat.div_add_mod j sz
  obtain ⟨b, off, e, hb, hc⟩ := hl.at hi
  injection e with e
  subst e
  have hg := rowV_get h l (j / sz) (j % sz) hi hm
  rw [hjj, hu] at hg
  rw [add_none, show off + j = off + j / sz * sz + j % sz by omega]
  exact hc _ _ hg.symm

/-- A list in a row of the call's own. -/
structure OwnL (E : TypeId) (sz : Nat) (enc : α → List Value) (w0 w : World) (a : Option Addr) (cap : Nat) (l : List α) : Prop where
  row : w.ownsRow 0 E sz (.slice a l.length cap) l.length (rowV enc l)
  kept : Kept [] w0 w
  new : ∀ i ∈ fp a, w0.heap.size ≤ i
theorem OwnL.start (w : World) : OwnL E sz enc w w none 0 ([] : List α) := ⟨World.ownsRow_nil _ _ _ _, Kept.refl _ _, by simp [fp]⟩
theorem OwnL.made (w : World) : OwnL E sz enc w (w.alloc (.cells #[] E (0, 0))) (some ⟨w.heap.size, 0, none⟩) 0 ([] : List α) :=
  ⟨World.ownsRow_made w #[] 0 (Nat.zero_le _) (Nat.zero_le _) (by simp), (Kept.refl [] w).alloc _, fun i hi => by simp only [fp, List.mem_singleton] at hi; omega⟩
/-- A row that was laid whole. -/
theorem OwnL.laid (h : Enc P E sz bytes enc) (w : World) (l : List α) (cs : Array Value) (hc : cs.toList = rowV enc l) (hl : l.length ≤ maxLen) : OwnL E sz enc w (w.alloc (.cells cs E (0, 0))) (some ⟨w.heap.size, 0, none⟩) l.length l := by
  have hz : cs.size = l.length * sz := by rw [← Array.length_toList, hc, rowV_len h]
  refine ⟨⟨rowV_len h l, .inr ⟨w.heap.size, l.length, cs, rfl, Nat.zero_le _, heap_alloc_new w _, Nat.le_refl _, hl, hz, ?_⟩⟩, (Kept.refl [] w).alloc _, fun i hi => by simp only [fp, List.mem_singleton] at hi; omega⟩
  rw [hc, ← rowV_len h, List.take_length]
theorem OwnL.later {w0 w w' : World} {a : Option Addr} {cap : Nat} {l : List α} (h : OwnL E sz enc w0 w a cap l) (k : Kept [] w w') : OwnL E sz enc w0 w' a cap l := ⟨row_kept h.row k (by simp), h.kept.step k (by simp), h.new⟩
theorem OwnL.rebase {w0 w1 w : World} {a : Option Addr} {cap : Nat} {l : List α} (h : OwnL E sz enc w1 w a cap l) (k : Kept [] w0 w1) : OwnL E sz enc w0 w a cap l := ⟨h.row, k.step h.kept (by simp), fun i hi => Nat.le_trans k.size (h.new i hi)⟩
theorem OwnL.lt {w0 w : World} {a : Option Addr} {cap : Nat} {l : List α} (h : OwnL E sz enc w0 w a cap l) : ∀ i ∈ fp a, i < w.heap.size := by
  intro i hi
  obtain ⟨cur, hc⟩ := row_blk h.row i hi
  exact lt_of_heap hc
/-- Another row is written, or grown: this one stays. -/
theorem OwnL.beside {S : List Nat} {w0 w w' : World} {a : Option Addr} {cap : Nat} {l : List α} (h : OwnL E sz enc w0 w a cap l) (k : Kept S w w') (hS : ∀ i ∈ S, w0.heap.size ≤ i) (hd : ∀ i ∈ S, i ∉ fp a) : OwnL E sz enc w0 w' a cap l :=
  ⟨row_kept h.row k (fun i hi hm => hd i hm hi), h.kept.trans k (fun i hi => .inr (hS i hi)), h.new⟩
theorem row_list (h : Enc P E sz bytes enc) {w : World} {a : Option Addr} {cap : Nat} {l : List α} (hr : w.ownsRow 0 E sz (.slice a l.length cap) l.length (rowV enc l)) : ListAt sz enc w a l := by
  rcases Nat.eq_zero_or_pos l.length with h0 | h0
  · exact ⟨.inl (List.length_eq_zero_iff.1 h0), by rw [h0]; exact Nat.zero_le _⟩
  · obtain ⟨g, cur, rfl, hg, h1, h2, _⟩ := row_some hr h0
    refine ⟨.inr ⟨g, 0, rfl, lt_of_heap hg, fun i hi j v hv => ?_⟩, by omega⟩
    have hj : j < sz := by
      rcases Nat.lt_or_ge j sz with h1 | h1
      · exact h1
      · rw [List.getElem?_eq_none (by rw [h.len]; exact h1)] at hv; cases hv
    rw [Nat.zero_add]
    exact row_cell hr (by rw [rowV_get h l i j hi hj]; exact hv)
theorem OwnL.seq (h : Enc P E sz bytes enc) {w0 w : World} {a : Option Addr} {cap : Nat} {l : List α} (ho : OwnL E sz enc w0 w a cap l) : ListAt sz enc w a l := row_list h ho.row
theorem OwnL.cap {w0 w : World} {a : Option Addr} {cap : Nat} {l : List α} (h : OwnL E sz enc w0 w a cap l) : l.length ≤ cap ∧ cap ≤ maxLen := by
  rcases h.row.2 with ⟨e, h0⟩ | ⟨g, cap', cur, e, _, _, h1, h2, _⟩
  · injection e with _ e1 e2
    have : l.length = 0 := by simpa using e1
    subst e2
    exact ⟨by omega, Nat.zero_le _⟩
  · injection e with _ _ e2
    subst e2
    exact ⟨h1, h2⟩

/-- 'append(l, m...)'. -/
theorem run_appL (h : Enc P E sz bytes enc) {t : TypeId} (ht : P.underlying t = some (.slice E)) {w0 w : World} {a b : Option Addr} {cap c : Nat} {l m : List α} (ho : OwnL E sz enc w0 w a cap l) (hs : ListAt sz enc w b m) (hlen : l.length + m.length ≤ 1000000) (ty : TypeId) :
    ∃ a' cap' w', (Builtin.append_ #[t, t] ty #[.slice a l.length cap, .slice b m.length c]).run P w = .ok (.slice a' (l ++ m).length cap') w' ∧ OwnL E sz enc w0 w' a' cap' (l ++ m) ∧ Kept (fp a) w w' ∧ (∀ i ∈ fp a', i ∈ fp a ∨ w.heap.size ≤ i) := by
  obtain ⟨i0, z, hi, hz0, hz1, hz2, hzs⟩ := h.info
  have hsm := h.small
  have nilCase : m = [] → ∀ n' : Nat, n' = 0 → ∃ a' cap' w', (Builtin.append_ #[t, t] ty #[.slice a l.length cap, .slice none n' c]).run P w = .ok (.slice a' (l ++ m).length cap') w' ∧ OwnL E sz enc w0 w' a' cap' (l ++ m) ∧ Kept (fp a) w w' ∧ (∀ i ∈ fp a', i ∈ fp a ∨ w.heap.size ≤ i) := by
    intro hm0 n' hn'
    subst hm0; subst hn'
    refine ⟨a, cap, w, ?_, by rw [List.append_nil]; exact ho, Kept.refl _ _, fun i hi => .inl hi⟩
    rw [List.append_nil]
    rcases ho.row.2 with ⟨e, h0⟩ | ⟨g, cap', cur, e, _, _, hnc, _⟩
    · rw [e]; simp [Builtin.append_, run_underlying ht, sizeOf, typeInfo, hi, Builtin.lenOf, Builtin.firstCells]
    · rw [e]; simp [Builtin.append_, run_underlying ht, sizeOf, typeInfo, hi, Builtin.lenOf, Builtin.firstCells, hnc, storeCells]
  cases b with
  | none =>
    have hm0 : m = [] := by
      rcases hs.cells with h0 | ⟨b, off, e, _⟩
      · exact h0
      · cases e
    have := nilCase hm0 m.length (by rw [hm0]; rfl)
    exact this
  | some ad =>
    have hb : (l.length + m.length) * bytes ≤ 140737488355328 := Nat.le_trans (Nat.mul_le_mul hlen hsm) (by omega)
    obtain ⟨v', w', hr, hown, hgrow, hnil, hloc⟩ := run_append_own_at (P := P) w 0 t ty E i0 z sz bytes ht hi hz0 hz1 hz2 hzs h.pos _ l.length (rowV enc l) ho.row ad m.length c (rowV enc m) (rowV_len h m) (list_news h hs) (rowV_one h m) (by unfold maxLen; omega) hb (Nat.zero_le _)
    have hv' : ∃ a' cap', v' = .slice a' (l.length + m.length) cap' := by
      rcases hown.2 with ⟨e1, e2⟩ | ⟨g, cap', cur, e1, _⟩
      · exact ⟨none, 0, by rw [e1, e2]⟩
      · exact ⟨_, cap', e1⟩
    obtain ⟨a', cap', rfl⟩ := hv'
    have hk : Kept (fp a) w w' := (Kept.of_grown hgrow).mono (fun i hi => .inl (by rwa [ownBlock_fp] at hi))
    have hfp : ∀ i ∈ fp a', i ∈ fp a ∨ w.heap.size ≤ i := by
      intro i hi
      have hi' : (Value.slice a' (l.length + m.length) cap').ownBlock = some i := by
        cases a' with
        | none => simp [fp] at hi
        | some x => simp only [fp, List.mem_singleton] at hi; rw [hi]; rfl
      rcases hloc with e | e
      · rw [e] at hi'; exact .inl (ownBlock_mem hi')
      · rw [e] at hi'; injection hi' with hi'; exact .inr (by omega)
    rw [List.length_append]
    refine ⟨a', cap', w', hr, ⟨by rw [List.length_append, rowV_app]; exact hown, ho.kept.trans hk (fun i hi => .inr (ho.new i hi)), fun i hi => ?_⟩, hk, hfp⟩
    rcases hfp i hi with e | e
    · exact ho.new i e
    · exact Nat.le_trans ho.kept.size e
section
variable {ops : Array Oper} {rest : List Oper} {o : Oper} {ac : Act} {Q : Exit → Act → World → Prop}
theorem wp_appL (h : Enc P E sz bytes enc) {t : TypeId} (ht : P.underlying t = some (.slice E)) {w0 w : World} {a b : Option Addr} {cap c : Nat} {l m n : List α} (hn : n = l ++ m) (ho : OwnL E sz enc w0 w a cap l) (hs : ListAt sz enc w b m) (hlen : l.length + m.length ≤ 1000000)
    (hgd : o.guard = none) (s x : Operand)
    (hop : o.op = .call { callee := .builtin .append, args := #[s, x], argTypes := #[t, t] }) {nl nm : Nat} (e1 : ac.eval s = .slice a nl cap) (en : nl = l.length) (e2 : ac.eval x = .slice b nm c) (em : nm = m.length)
    (hk : ∀ a' cap' w', OwnL E sz enc w0 w' a' cap' n → Kept (fp a) w w' → (∀ i ∈ fp a', i ∈ fp a ∨ w.heap.size ≤ i) → wpList P ops Q rest (ac.put o.dst (.slice a' n.length cap')) w') : wpList P ops Q (o :: rest) ac w := by
  subst hn; subst en; subst em
  refine wpList_plain hgd fun K hK => ?_
  obtain ⟨a', cap', w', hr, ho', h1, h2⟩ := run_appL (c := c) h ht ho hs hlen o.type
  unfold Oper.wp execOp
  simp only [hop, resolve, invoke, builtin, Sem.run_bind, Sem.run_pure, Result.andThen_ok, List.map_toArray, List.map_cons, List.map_nil, e1, e2, hr]
  exact hK _ _ (hk a' cap' w' ho' h1 h2)
theorem step_appL {K : Act → World → Prop} {F : Prop} (h : Enc P E sz bytes enc) {t : TypeId} (ht : P.underlying t = some (.slice E)) {w0 w : World} {a b : Option Addr} {cap c : Nat} {l m n : List α} (hn : n = l ++ m) (ho : OwnL E sz enc w0 w a cap l) (hs : ListAt sz enc w b m) (hlen : l.length + m.length ≤ 1000000)
    (hgd : o.guard = none) (s x : Operand)
    (hop : o.op = .call { callee := .builtin .append, args := #[s, x], argTypes := #[t, t] }) {nl nm : Nat} (e1 : ac.eval s = .slice a nl cap) (en : nl = l.length) (e2 : ac.eval x = .slice b nm c) (em : nm = m.length)
    (hk : ∀ a' cap' w', OwnL E sz enc w0 w' a' cap' n → Kept (fp a) w w' → (∀ i ∈ fp a', i ∈ fp a ∨ w.heap.size ≤ i) → K (ac.put o.dst (.slice a' n.length cap')) w') :
    if Region.wanted o (yielded ops ac.tmps) = true then Oper.wp P o ac w K Q else F := by
  subst hn; subst en; subst em
  have hw : Region.wanted o (yielded ops ac.tmps) = true := by simp [Region.wanted, hgd]
  rw [if_pos hw]
  obtain ⟨a', cap', w', hr, ho', h1, h2⟩ := run_appL (c := c) h ht ho hs hlen o.type
  unfold Oper.wp execOp
  simp only [hop, resolve, invoke, builtin, Sem.run_bind, Sem.run_pure, Result.andThen_ok, List.map_toArray, List.map_cons, List.map_nil, e1, e2, hr]
  exact hk a' cap' w' ho' h1 h2
end
/-- A list whose elements lie in one new block. -/
theorem list_box (h : Enc P E sz bytes enc) {w : World} {b : Nat} {cs : Array Value} {t : TypeId} {fz : Nat × Nat} {l : List α} (hb : w.heap[b]? = some (.cells cs t fz)) (hc : cs.toList = rowV enc l) (hl : l.length ≤ maxLen) : ListAt sz enc w (some ⟨b, 0, none⟩) l := by
  refine ⟨.inr ⟨b, 0, rfl, lt_of_heap hb, fun i hi j v hv => ?_⟩, hl⟩
  have hj : j < sz := by
    rcases Nat.lt_or_ge j sz with h1 | h1
    · exact h1
    · rw [List.getElem?_eq_none (by rw [h.len]; exact h1)] at hv; cases hv
  rw [Nat.zero_add, cell_at hb, ← Array.getElem?_toList, hc, rowV_get h l i j hi hj]
  exact hv
theorem list_nil (w : World) (a : Option Addr) : ListAt sz enc w a ([] : List α) := ⟨.inl rfl, Nat.zero_le _⟩
theorem ListAt.keptN {w w' : World} {a : Option Addr} {l : List α} (h : ListAt sz enc w a l) (k : Kept [] w w') : ListAt sz enc w' a l := SeqAt.kept h CEnc.lasts k (by simp)
theorem ListAt.drop {w : World} {a : Option Addr} {cap : Nat} {l : List α} (h : ListAt sz enc w a l) {k : Nat} (hk : k ≤ l.length) (hc : l.length ≤ cap) : ListAt sz enc w (if cap = k then a else a.map (·.add (k * sz))) (l.drop k) := by
  refine ⟨?_, Nat.le_trans (by simp) h.few⟩
  by_cases h0 : k = l.length
  · exact .inl (by rw [h0]; exact List.drop_length)
  · obtain ⟨b, off, rfl, hb, _⟩ := h.at (i := k) (by omega)
    rw [if_neg (by omega)]
    refine .inr ⟨b, off + k * sz, by simp [add_none], hb, fun i hi => ?_⟩
    have hi' : k + i < l.length := by simp at hi; omega
    obtain ⟨b', off', e, _, hcell⟩ := h.at hi'
    injection e with e; injection e with e1 e2
    subst e1; subst e2
    rw [List.getElem_drop, show off + k * sz + i * sz = off + (k + i) * sz by rw [Nat.add_mul]; omega]
    exact hcell
theorem ListAt.take {w : World} {a : Option Addr} {cap : Nat} {l : List α} (h : ListAt sz enc w a l) {k : Nat} (hk : k ≤ l.length) (hc : l.length ≤ cap) : ListAt sz enc w (if cap = 0 then a else a.map (·.add 0)) (l.take k) := by
  refine ⟨?_, Nat.le_trans (by simp; omega) h.few⟩
  by_cases h0 : k = 0
  · exact .inl (by rw [h0]; rfl)
  · obtain ⟨b, off, rfl, hb, _⟩ := h.at (i := 0) (by omega)
    rw [if_neg (by omega)]
    refine .inr ⟨b, off, by simp [add_none], hb, fun i hi => ?_⟩
    have hi' : i < l.length := by simp at hi; omega
    obtain ⟨b', off', e, _, hcell⟩ := h.at hi'
    injection e with e; injection e with e1 e2
    subst e1; subst e2
    rw [List.getElem_take]
    exact hcell
end

/-! ### lists of strings -/
abbrev Str := List UInt8
def sV (x : Str) : Value := .string ⟨x.toArray⟩
def encS (x : Str) : List Value := [sV x]
abbrev StrsAt (w : World) (a : Option Addr) (l : List Str) : Prop := ListAt 1 encS w a l
theorem StrsAt.get {w : World} {a : Option Addr} {l : List Str} (h : StrsAt w a l) {i : Nat} (hi : i < l.length) : ∃ b off, a = some ⟨b, off, none⟩ ∧ b < w.heap.size ∧ w.cell? ⟨b, off + i, none⟩ = some (sV l[i]) := by
  obtain ⟨b, off, e, hb, hc⟩ := h.at hi
  refine ⟨b, off, e, hb, ?_⟩
  have := hc 0 _ rfl
  rwa [Nat.mul_one, Nat.add_zero] at this
theorem sV_toList (s : ByteArray) : sV s.data.toList = .string s := by simp [sV]
end Go.Proofs.Ytdikijbkfhimoaa
