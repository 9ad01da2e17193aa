/- Arguments read: windows, lists of windows. -/
import Derived.Test.YtjjmcmchcmfgnaaDoorDel
import Derived.Test.YtjjmcmchcmfgnaaDoorInst
import Derived.OpenShut
namespace Go.Proofs.YtjjmcmchcmfgnaaDoor
open Go.RowKit Go.ChangeShapes Go.WideShapes Go.ChangeAt

theorem win_agg {H : Type} {enc : TypeId × Value → H} {r : Reach} {b0 : Nat} {w : World} {v : Value} {d : DataW H} {p : List MemPlace} (hv : Value.okWide Tryd.prog w r b0 27 v)
    (h : DataW.Trod enc Tryd.prog w 0 (fun _ => true) true 27 v d p) : ∃ x : Win, v = winV x ∧ True := by
  obtain ⟨c0, c1, y0, y1, n, rfl, _, _, f0, f1⟩ := Joins.open_agg2 Tryd.underlying27 (by kernel_rfl) (by kernel_rfl) hv h
  obtain ⟨n0, e0, _, _⟩ := DataW.trod_int Tryd.underlying3 f0
  obtain ⟨n1, e1, _, _⟩ := DataW.trod_int Tryd.underlying3 f1
  simp at e0 e1
  exact ⟨(n0, n1), by rw [e0, e1]; rfl, trivial⟩
theorem win_open {H : Type} {enc : TypeId × Value → H} {w : World} {b o n : Nat} {cs : List Value} {y : DataW H × List MemPlace} (hl : cs.length = 2) (hc : ∀ j, j < 2 → w.cell? ⟨b, o + j, none⟩ = cs[j]?) (h : DataW.trod enc Tryd.prog w 0 (fun _ => true) true n 27 cs = some y) :
    ∃ x : Win, CEnc encW w b o x := by
  obtain ⟨xs, m, _, _, _, hlen, hf⟩ := DataW.trod_struct Tryd.underlying27 h
  have hlen4 : xs.length = 2 := hlen
  have zj : Tryd.prog.cellsOf 3 = 1 := by kernel_rfl
  have f0 := hf 0 _ rfl
  have f1 := hf 1 _ rfl
  match cs, hl, xs, hlen4 with
  | [c0, c1], _, [x0, x1], _ =>
    obtain ⟨n0, e0, _, _⟩ := DataW.trod_int Tryd.underlying3 f0
    obtain ⟨n1, e1, _, _⟩ := DataW.trod_int Tryd.underlying3 f1
    have k0 : c0 = .int .i64 n0 := by simpa [zj] using e0
    have k1 : c1 = .int .i64 n1 := by simpa [zj] using e1
    refine ⟨(n0, n1), fun j v hv => ?_⟩
    have hj : j < 2 := by
      rcases Nat.lt_or_ge j 2 with h1 | h1
      · exact h1
      · rw [List.getElem?_eq_none (by simpa [encW] using h1)] at hv; cases hv
    rw [hc j hj, k0, k1]
    exact hv
theorem wins_open {H : Type} {enc : TypeId × Value → H} {w : World} {a : Option Addr} {len cap : Nat} {d : DataW H} {p : List MemPlace}
    (h : DataW.Trod enc Tryd.prog w 0 (fun _ => true) true 32 (.slice a len cap) d p) : ∃ l : List Win, l.length = len ∧ WinsAt w a l := by
  obtain ⟨h1, h2, h3⟩ := slice_open Tryd.underlying32 (sz := 2) (by kernel_rfl) (by omega) h
  rcases h3 with h3 | ⟨b, off, ha, hb, hel⟩
  · exact ⟨[], h3.symm, ⟨.inl rfl, by simp [maxLen]⟩⟩
  · obtain ⟨l, hl, hp⟩ := list_of (α := Win) (p := fun i x => CEnc encW w b (off + i * 2) x) (fun i hi => by
      obtain ⟨cs, y, n, e1, e2, e3⟩ := hel i hi
      exact win_open e1 e2 e3)
    exact ⟨l, hl, ⟨.inr ⟨b, off, ha, hb, fun i hi => hp i hi⟩, by omega⟩⟩
end Go.Proofs.YtjjmcmchcmfgnaaDoor
