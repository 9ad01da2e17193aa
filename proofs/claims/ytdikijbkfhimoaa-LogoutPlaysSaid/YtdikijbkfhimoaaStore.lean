/- A store at a key that is there, while the map is ranged over. No program. -/
import Derived.Test.YtdikijbkfhimoaaRange
namespace Go.Proofs.Ytdikijbkfhimoaa
open Go.RowKit Go.Maps Go.WideShapes Go.ChangeMaps Go.MapKept
open Go.WideElems (Fit rd rg pl rd_key rd_val rg_of other_key)

theorem mem_set_same {α β : Type} (f : α → β) {l : List α} {j : Nat} {a b : α} (ha : l[j]? = some a) (hf : f b = f a) : (l.set j b).map f = l.map f := by
  rw [List.map_set, hf]
  refine List.ext_getElem? fun i => ?_
  rw [List.getElem?_set]
  have h0 : (l.map f)[j]? = some (f a) := by rw [List.getElem?_map, ha]; rfl
  split
  · rename_i e
    subst e
    have := (List.getElem?_eq_some_iff.1 h0).1
    rw [if_pos this, h0]
  · rfl
section
variable {P : Program} {k : TypeId} {H : Type}
theorem ranges_store {R : Value → Option (DataW H × List MemPlace)} {w : World} {b r n : Nat} {D : DataW H} {left : Lit → Bool} {cnt : Nat} {t e : TypeId} (h : w.ranges P k R b r n D left cnt) (K : Keyed P k) (ht : P.underlying t = some (.map k e)) (hn : n < maxLen) {key val : Value} {kl : Lit} {d : DataW H} {ps : List MemPlace}
    (hkey : keyOf P k key = some kl) (hv : R val = some (d, ps)) (hhas : Maps.has D kl = true) :
    ∃ w', (Instr.mapUpdate t (.map (some b)) key val).run P w = .ok () w' ∧ w'.ranges P k R b r n (D.put kl d) left cnt ∧ w.mapTurned w' b := by
  have hne := h.ne
  obtain ⟨es, clock, since, seen, c0, hb, F, hs, rfl, hr, hold, rfl, hl1, hl2, hsc, hsk⟩ := h
  obtain ⟨es', clock', hrun, F', hput, _⟩ := Maps.fit_store (R' := R) K ht hb F (Nat.lt_of_le_of_lt hs hn) (fun _ _ _ _ hz => hz) hkey hv
  rcases K.find w hkey es.toList F.keys with ⟨h1, h2⟩ | ⟨j, e0, h1, h2, h3⟩
  · exfalso
    obtain ⟨p, hp, hpk⟩ := List.any_eq_true.1 hhas
    obtain ⟨x, hx, rfl⟩ := List.mem_map.1 (mem_sorted.1 hp)
    obtain ⟨y, hy⟩ := F.reads x hx
    have e1 := WideAt.sameKey_eq hpk
    rw [rg_of hy] at e1
    exact h2 x hx (K.inj (e1 ▸ rd_key hy) hkey)
  · have hj : es[j]? = some e0 := by simpa using h2
    have hrun2 : (Instr.mapUpdate t (.map (some b)) key val).run P w = .ok () (setBlock w b (.map (es.modify j (fun e' => { e' with key := key, val := val })) clock)) := by
      simp [Instr.mapUpdate, run_underlying ht, MapKept.run_getObj_map hb, K.check w false hkey, h1, hj, h3, K.stays w hkey, MapKept.run_setObj_map _ hb, Result.andThen, setBlock]
    rw [hrun2] at hrun
    injection hrun with _ hw
    have hbl : (setBlock w b (.map (es.modify j (fun e' => { e' with key := key, val := val })) clock)).heap[b]? = (setBlock w b (.map es' clock')).heap[b]? := by rw [hw]
    rw [heap_setBlock_same hb, heap_setBlock_same hb] at hbl
    injection hbl with hbl
    injection hbl with he hc
    subst he
    subst hc
    have hlist : (es.modify j (fun e' => { e' with key := key, val := val })).toList = es.toList.set j { e0 with key := key, val := val } := by rw [Array.toList_modify, modify_eq_set _ _ _ _ h2]
    have hborn : (es.toList.set j { e0 with key := key, val := val }).map MapEntry.born = es.toList.map MapEntry.born := mem_set_same _ h2 rfl
    obtain ⟨y0, hy0⟩ := F.reads e0 (List.mem_of_getElem? h2)
    have k0 : (rg P k R e0).1 = kl := by
      have m1 := rd_key hy0
      rw [h3, hkey] at m1
      rw [rg_of hy0]
      exact (Option.some.inj m1).symm
    have k1 : (rg P k R ({ e0 with key := key, val := val } : MapEntry)).1 = kl := by rw [Go.WideElems.rg_of (Go.WideElems.rd_mk hkey hv)]
    have who : ∀ x ∈ es.toList.set j { e0 with key := key, val := val }, ∃ x0 ∈ es.toList, x0.born = x.born ∧ (rg P k R x0).1 = (rg P k R x).1 := by
      intro x hx
      rcases List.mem_or_eq_of_mem_set hx with hx | rfl
      · exact ⟨x, hx, rfl, rfl⟩
      · exact ⟨e0, List.mem_of_getElem? h2, rfl, by rw [k0, k1]⟩
    refine ⟨_, hrun2, ⟨_, clock, since, seen, c0, heap_setBlock_same hb _, F', by simpa using hs, by rw [DataW.put_eq, hput], (heap_setBlock_other hb _ hne).trans hr, ?_, ?_, ?_, ?_, hsc, hsk⟩, ⟨es, clock, _, clock, hb, rfl⟩⟩
    · intro x hx
      rw [hlist] at hx
      obtain ⟨x0, hx0, e1, _⟩ := who x hx
      rw [← e1]; exact hold x0 hx0
    · have e1 : ∀ a : Array MapEntry, (leftOf a seen).size = ((a.toList.map MapEntry.born).filter fun n => !seen.contains n).length := fun a => by
        unfold leftOf
        rw [← Array.length_toList, Array.toList_filter, List.filter_map, List.length_map]
        rfl
      rw [e1, e1, hlist, hborn]
    · intro x hx
      rw [hlist] at hx
      obtain ⟨x0, hx0, e1, e2⟩ := who x hx
      rw [← e1, ← e2]; exact hl1 x0 hx0
    · intro kl' hkl
      obtain ⟨x, hx, e1⟩ := hl2 kl' hkl
      rw [hlist]
      obtain ⟨i, hi⟩ := List.getElem?_of_mem hx
      by_cases hij : j = i
      · subst hij
        rw [h2] at hi
        cases hi
        exact ⟨_, List.mem_of_getElem? (i := j) (by rw [List.getElem?_set, if_pos rfl, if_pos (List.getElem?_eq_some_iff.1 h2).1]), by rw [k1, ← k0, e1]⟩
      · exact ⟨x, List.mem_of_getElem? (i := i) (by rw [List.getElem?_set, if_neg hij]; exact hi), e1⟩
end
section
variable {P : Program} {ks : TypeId}
/-- A store at a key that is there and has been met. -/
theorem RRange.store {w : World} {mb r cnt : Nat} {L T : List REnt} (h : RRange P ks w mb r L T cnt) {t e : TypeId} (K : Keyed P ks) (hk : P.underlying ks = some .string) (ht : P.underlying t = some (.map ks e)) (hn : L.length < maxLen) (s : ByteArray) (hs : s.size ≤ maxLen) (v : Value)
    (hin : (rlook L s.data.toList).isSome = true) (hT : ∀ p ∈ T, p.1 ≠ s.data.toList) :
    ∃ w', (Instr.mapUpdate t (.map (some mb)) (.string s) v).run P w = .ok () w' ∧ RRange P ks w' mb r (rput L s.data.toList v) T cnt ∧ Kept [mb] w w' ∧ w'.heap.size = w.heap.size := by
  obtain ⟨n, D, left, hr, hD, rfl⟩ := h.run
  have hr' : w.ranges P ks rawElem mb r L.length D left cnt := by
    obtain ⟨es, clock, since, seen, c0, hb, F, hs, hd, rest⟩ := hr
    refine ⟨es, clock, since, seen, c0, hb, F, ?_, hd, rest⟩
    have := hD.size
    rw [hd] at this
    simp [Maps.size, length_sorted] at this
    omega
  obtain ⟨w', hrun, hrg, htu⟩ := ranges_store hr' K ht hn (val := v) (WideMaps.keyOf_string_mk hk hs) rfl (by rw [hD.has]; exact hin)
  refine ⟨w', hrun, ⟨_, _, left, hrg, hD.put (rput_uniq hD.uniq _ _) (rput_mem _ _), ?_⟩, (Kept.of_grown htu.grown).mono (by simp), ?_⟩
  · have hl : left (.string s.data.toList) = false := by
      cases hl : left (.string s.data.toList) with
      | false => rfl
      | true =>
        obtain ⟨v0, hv0⟩ := Option.isSome_iff_exists.1 hin
        exact absurd rfl (hT (s.data.toList, v0) (List.mem_filter.2 ⟨rlook_some hv0, hl⟩))
    unfold rput
    rw [if_pos hin, List.filter_map]
    have e1 : ((fun p : REnt => left (.string p.1)) ∘ fun p : REnt => if p.1 = s.data.toList then (s.data.toList, v) else p) = fun p : REnt => left (.string p.1) := by
      funext p
      show left (.string (if p.1 = s.data.toList then (s.data.toList, v) else p).1) = _
      by_cases e : p.1 = s.data.toList
      · rw [if_pos e, e]
      · rw [if_neg e]
    rw [e1]
    symm
    refine (List.map_congr_left (g := id) (fun p hp => ?_)).trans (List.map_id _)
    have hne := hT p hp
    show (if p.1 = s.data.toList then (s.data.toList, v) else p) = p
    rw [if_neg hne]
  · obtain ⟨es, clock, es', clock', hb, rfl⟩ := htu
    simp [ChangeMaps.setBlock]
section
variable {w : World} {ops : Array Oper} {rest : List Oper} {o : Oper} {a : Act} {Q : Exit → Act → World → Prop}
end
end
end Go.Proofs.Ytdikijbkfhimoaa
