/- What LogoutBound is handed: three numbers, a list of bools; opened. -/
import Derived.Test.YtdikijbkfhimoaaBndP
import Derived.Test.YtdikijbkfhimoaaCounts
import Derived.Laws.IdiomArrays
namespace Go.Proofs.Ytdikijbkfhimoaa
open Go.RowKit Go.Maps Go.ChangeShapes Go.WideShapes Go.ChangeAt

def arrV (x : Int × Int × Int) : Value := .agg #[.int .i64 x.1, .int .i64 x.2.1, .int .i64 x.2.2]
set_option maxRecDepth 100000 in
theorem arr_agg {H : Type} {enc : TypeId × Value → H} {r : Reach} {b0 : Nat} {w : World} {v : Value} {d : DataW H} {p : List MemPlace} (hv : Value.okWide Try.prog w r b0 51 v)
    (h : DataW.Trod enc Try.prog w 0 (fun _ => true) true 51 v d p) : ∃ x : Int × Int × Int, v = arrV x ∧ True := by
  simp only [Value.okWide, Try.underlying51] at hv
  obtain ⟨cs, rfl, hsz, _⟩ := hv
  have hC : Try.prog.cellsOf 51 = 3 := by kernel_rfl
  obtain ⟨fuel, hf⟩ := h
  have hl : cs.toList.length = 3 := by rw [Array.length_toList, hsz, hC]
  obtain ⟨l, rfl⟩ : ∃ l : List Value, cs = l.toArray := ⟨cs.toList, by simp⟩
  match l, hl with
  | [c0, c1, c2], _ =>
    obtain ⟨y0, y1, y2, n, _, f0, f1, f2⟩ := trod_array3 Try.underlying51 (by kernel_rfl) (by simpa [Value.cells] using hf)
    obtain ⟨n0, e0, _⟩ := DataW.trod_int Try.underlying3 f0
    obtain ⟨n1, e1, _⟩ := DataW.trod_int Try.underlying3 f1
    obtain ⟨n2, e2, _⟩ := DataW.trod_int Try.underlying3 f2
    simp at e0 e1 e2
    exact ⟨(n0, n1, n2), by rw [e0, e1, e2]; rfl, trivial⟩
def encB (b : Bool) : List Value := [.bool b]
abbrev BoolsAt (w : World) (a : Option Addr) (l : List Bool) : Prop := ListAt 1 encB w a l
theorem BoolsAt.get {w : World} {a : Option Addr} {l : List Bool} (h : BoolsAt w a l) {i : Nat} (hi : i < l.length) : ∃ b off, a = some ⟨b, off, none⟩ ∧ b < w.heap.size ∧ w.cell? ⟨b, off + i, none⟩ = some (.bool l[i]) := by
  obtain ⟨b, off, e, hb, hc⟩ := h.at hi
  exact ⟨b, off, e, hb, by have := hc 0 _ rfl; rwa [Nat.add_zero, Nat.mul_one] at this⟩
theorem bools_open {H : Type} {enc : TypeId × Value → H} {w : World} {a : Option Addr} {len cap : Nat} {d : DataW H} {p : List MemPlace}
    (h : DataW.Trod enc Try.prog w 0 (fun _ => true) true 60 (.slice a len cap) d p) : ∃ l : List Bool, l.length = len ∧ BoolsAt w a l := by
  obtain ⟨h1, h2, h3⟩ := slice_open Try.underlying60 (sz := 1) (by kernel_rfl) (by omega) h
  rcases h3 with h3 | ⟨b, off, ha, hb, hel⟩
  · exact ⟨[], h3.symm, list_nil w a⟩
  · obtain ⟨l, hl, hp⟩ := list_of (α := Bool) (p := fun i x => CEnc encB w b (off + i * 1) x) (fun i hi => by
      obtain ⟨cs, y, n, e1, e2, e3⟩ := hel i hi
      match cs, e1 with
      | [c0], _ =>
        obtain ⟨n0, e0, _⟩ := DataW.trod_bool Try.underlying4 e3
        have k0 : c0 = .bool n0 := by simpa using e0
        refine ⟨n0, fun j v hv => ?_⟩
        have hj : j = 0 := by
          rcases Nat.eq_zero_or_pos j with h0 | h0
          · exact h0
          · rw [List.getElem?_eq_none (by simp [encB]; omega)] at hv; cases hv
        subst hj
        rw [e2 0 (by omega), ← hv, k0]
        simp [encB])
    exact ⟨l, hl, ⟨.inr ⟨b, off, ha, hb, fun i hi => hp i hi⟩, by omega⟩⟩
set_option maxHeartbeats 400000 in
theorem sub_any (a b : Int) (w : World) :
    Calls Try.prog 33 #[.int .i64 a, .int .i64 b] w fun e w' => e = .returned (.int .i64 (lim a - lim b)) ∧ w = w' := by
  have h1 := lim_bd a
  have h2 := lim_bd b
  go_enter Try.func33, Try.ntmps33
  go_wp2_with (go_at_call 58; refine (limited_any _ _).mono ?_; rintro e w' ⟨rfl, rfl⟩)
  go_ret
  exact ⟨rfl, rfl⟩
end Go.Proofs.Ytdikijbkfhimoaa
