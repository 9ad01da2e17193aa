/- Ranging over a map from strings to whatever values: what is still to come, as a list of entries. No program. -/
import Derived.Test.YtdikijbkfhimoaaRaw
namespace Go.Proofs.Ytdikijbkfhimoaa
open Go.RowKit Go.Maps Go.WideShapes

theorem RSim.congr {D : DataW Value} {L L' : List REnt} (h : RSim D L) (hu : RUniq L') (hm : ∀ p, p ∈ L' ↔ p ∈ L) : RSim D L' := by
  obtain ⟨es, rfl, h1, h2, h3⟩ := h
  exact ⟨es, rfl, h1, hu, fun q => by rw [h3]; exact ⟨fun ⟨p, hp, e⟩ => ⟨p, (hm p).2 hp, e⟩, fun ⟨p, hp, e⟩ => ⟨p, (hm p).1 hp, e⟩⟩⟩

section
variable {P : Program} {ks : TypeId}
/-- A range over block mb, its state in block r: the map has the entries L, those of T are still to come. -/
structure RRange (P : Program) (ks : TypeId) (w : World) (mb r : Nat) (L T : List REnt) (cnt : Nat) : Prop where
  run : ∃ n D left, w.ranges P ks rawElem mb r n D left cnt ∧ RSim D L ∧ T = L.filter fun p => left (.string p.1)
theorem RRange.uniq {w : World} {mb r cnt : Nat} {L T : List REnt} (h : RRange P ks w mb r L T cnt) : RUniq L := by
  obtain ⟨n, D, left, _, hs, _⟩ := h.run; exact hs.uniq
theorem RRange.left_eq {w : World} {mb r cnt : Nat} {L T : List REnt} (h : RRange P ks w mb r L T cnt) : w.rangeLeft mb r = cnt := by
  obtain ⟨n, D, left, hr, _⟩ := h.run; exact hr.left_eq
theorem RRange.raw {w : World} {mb r cnt : Nat} {L T : List REnt} (h : RRange P ks w mb r L T cnt) : RawMap P ks w mb L := by
  obtain ⟨n, D, left, hr, hs, _⟩ := h.run; exact RawMap.of hr.owns hs
theorem RRange.ne {w : World} {mb r cnt : Nat} {L T : List REnt} (h : RRange P ks w mb r L T cnt) : r ≠ mb := by
  obtain ⟨n, D, left, hr, _⟩ := h.run; exact hr.ne
theorem RRange.lt {w : World} {mb r cnt : Nat} {L T : List REnt} (h : RRange P ks w mb r L T cnt) : r < w.heap.size := by
  obtain ⟨n, D, left, hr, _⟩ := h.run; exact hr.lt
theorem ranges_kept {S : List Nat} {H : Type} {k : TypeId} {R : Value → Option (DataW H × List MemPlace)} {w w' : World} {b r n : Nat} {D : DataW H} {left : Lit → Bool} {cnt : Nat} (h : w.ranges P k R b r n D left cnt) (kp : Kept S w w') (hb : b ∉ S) (hr : r ∉ S) : w'.ranges P k R b r n D left cnt := by
  have h1 := h.owns.lt
  have h2 := h.lt
  obtain ⟨es, clock, since, seen, c0, hbk, F, hs, hD, hrk, rest⟩ := h
  exact ⟨es, clock, since, seen, c0, (kp.block b h1 hb).trans hbk, F, hs, hD, (kp.block r h2 hr).trans hrk, rest⟩
theorem RRange.kept {S : List Nat} {w w' : World} {mb r cnt : Nat} {L T : List REnt} (h : RRange P ks w mb r L T cnt) (k : Kept S w w') (h1 : mb ∉ S) (h2 : r ∉ S) : RRange P ks w' mb r L T cnt := by
  obtain ⟨n, D, left, hr, hs⟩ := h.run
  exact ⟨n, D, left, ranges_kept hr k h1 h2, hs⟩
theorem RRange.sub {w : World} {mb r cnt : Nat} {L T : List REnt} (h : RRange P ks w mb r L T cnt) : ∀ p ∈ T, p ∈ L := by
  obtain ⟨n, D, left, _, _, rfl⟩ := h.run
  exact fun p hp => (List.mem_filter.1 hp).1

section
variable {w : World} {ops : Array Oper} {rest : List Oper} {o : Oper} {a : Act} {Q : Exit → Act → World → Prop}
/-- 'range m'. -/
theorem wp_range {mb : Nat} {L : List REnt} (h : RawMap P ks w mb L) (hg : o.guard = none) (m : Operand) (t : TypeId) (hop : o.op = Op.range t m) (e : TypeId) (K : Keyed P ks) (ht : P.underlying t = some (.map ks e)) (hm : a.eval m = .map (some mb))
    (hK : ∀ w', RRange P ks w' mb w.heap.size L L L.length → Kept [] w w' → w'.heap.size = w.heap.size + 1 → wpList P ops Q rest (a.put o.dst (.pointer (some ⟨w.heap.size, 0, none⟩))) w') :
    wpList P ops Q (o :: rest) a w := by
  obtain ⟨D, ho, hD⟩ := h.map
  refine wpList_range_own w hg m t hop ks e K ht rawElem mb _ D hm ho (fun w' hr hgr hsz => hK w' ⟨_, D, _, by rw [← hD.size]; exact hr, hD, ?_⟩ (Kept.of_grown hgr) hsz)
  rw [List.filter_eq_self.2]
  intro p hp
  rw [hD.has, rlook_of_mem hD.uniq (show (p.1, p.2) ∈ L from hp)]
  rfl
/-- The range's step. -/
theorem wp_next {mb r cnt : Nat} {L T : List REnt} (h : RRange P ks w mb r L T cnt) (hg : o.guard = none) (it : Operand) (hop : o.op = Op.next it false) (K : Keyed P ks) (hk : P.underlying ks = some .string) (hit : a.eval it = .pointer (some ⟨r, 0, none⟩))
    (hDone : T = [] → wpList P ops Q rest (a.put o.dst (.tuple #[.bool false])) w)
    (hMore : ∀ (x : ByteArray) (v : Value) (w' : World) (cnt' : Nat), x.size ≤ maxLen → (x.data.toList, v) ∈ T → RRange P ks w' mb r L (T.filter fun p => !(p.1 == x.data.toList)) cnt' → cnt' < cnt → Kept [r] w w' → w'.heap.size = w.heap.size →
      (Instr.entry (.pointer (some ⟨r, 0, none⟩))).run P w' = .ok (.tuple #[.string x, v]) w' → wpList P ops Q rest (a.put o.dst (.tuple #[.bool true, .string x, v])) w') :
    wpList P ops Q (o :: rest) a w := by
  obtain ⟨n, D, left, hr, hs, rfl⟩ := h.run
  refine wpList_next_ranges w hg it hop ks K rawElem Value.string (fun v : Value => v) (fun key kl hkey => by obtain ⟨x, rfl, _⟩ := WideMaps.string_of_keyOf hk hkey; exact ⟨x, rfl⟩) (fun v y hv => ⟨v, rfl⟩)
    mb r n D left cnt hit hr (fun _ hl => hDone (List.filter_eq_nil_iff.2 (fun p _ => by rw [hl]; simp))) (fun x v kl y w' cnt' hkey hlk hv hat hrg hlt hgr hsz hen => ?_)
  obtain ⟨x', ex, rfl, hwx⟩ := WideMaps.string_of_keyOf hk hkey
  cases ex
  have hy := rawElem_inv hv
  subst hy
  refine hMore x v w' cnt' hwx (List.mem_filter.2 ⟨hs.mem hat, hlk⟩) ⟨n, D, _, hrg, hs, ?_⟩ hlt ((Kept.of_grown hgr).mono (by simp)) hsz hen
  rw [List.filter_filter]
  apply List.filter_congr
  intro p _
  have e : (Lit.string p.1).sameKey (.string x.data.toList) = (p.1 == x.data.toList) := by
    by_cases h : p.1 = x.data.toList
    · rw [h]; simp [WideAt.sameKey_self (risKey_str x.data.toList)]
    · have h1 : (Lit.string p.1).sameKey (.string x.data.toList) = false := sameKey_ne (by simpa using h)
      rw [h1]; exact (beq_eq_false_iff_ne.2 h).symm
  rw [e, Bool.and_comm]
/-- 'delete' in the round. -/
theorem wp_rdelete {mb r cnt : Nat} {L T : List REnt} (h : RRange P ks w mb r L T cnt) (hg : o.guard = none) (m y : Operand) (t : TypeId) (hop : o.op = Op.call { callee := Callee.builtin Builtin.delete, args := #[m, y], argTypes := #[t, ks] })
    (e : TypeId) (K : Keyed P ks) (hk : P.underlying ks = some .string) (ht : P.underlying t = some (.map ks e)) (hm : a.eval m = .map (some mb)) (x : ByteArray) (hx : a.eval y = .string x) (hxs : x.size ≤ maxLen)
    (hK : ∀ w' cnt', RRange P ks w' mb r (rdel L x.data.toList) (rdel T x.data.toList) cnt' → cnt' ≤ cnt → Kept [mb] w w' → w'.heap.size = w.heap.size → wpList P ops Q rest (a.put o.dst (.tuple #[])) w') :
    wpList P ops Q (o :: rest) a w := by
  obtain ⟨n, D, left, hr, hs, rfl⟩ := h.run
  refine wpList_delete_ranges w hg m y t ks hop e K ht rawElem mb r n D left cnt hm hr _ _ hx (WideMaps.keyOf_string_mk hk hxs) (fun w' cnt' hrg hle htu => hK w' cnt' ⟨n, _, _, hrg, hs.del (hs.uniq.filter _) (rdel_mem _), ?_⟩ hle ((Kept.of_grown htu.grown).mono (by simp)) ?_)
  · unfold rdel
    rw [List.filter_filter, List.filter_filter]
    apply List.filter_congr
    intro p _
    have e : (Lit.string p.1).sameKey (.string x.data.toList) = (p.1 == x.data.toList) := by
      by_cases h : p.1 = x.data.toList
      · rw [h]; simp [WideAt.sameKey_self (risKey_str x.data.toList)]
      · have h1 : (Lit.string p.1).sameKey (.string x.data.toList) = false := sameKey_ne (by simpa using h)
        rw [h1]; exact (beq_eq_false_iff_ne.2 h).symm
    rw [e]
    cases (p.1 == x.data.toList) <;> cases left (Lit.string p.1) <;> rfl
  · obtain ⟨es, clock, es', clock', hb, rfl⟩ := htu
    simp [ChangeMaps.setBlock]
end
end
end Go.Proofs.Ytdikijbkfhimoaa
