/- What comes in, opened: a list of proofs, a proof by value. -/
import Derived.Test.YtmipnhdfhgekkaaLive
import Derived.Lib.SmallJoins
namespace Go.Proofs.Ytmipnhdfhgekkaa
open Go.RowKit Go.ChangeShapes Go.WideShapes Go.ChangeAt

theorem prf_open {H : Type} {enc : TypeId × Value → H} {w : World} {b o n : Nat} {cs : List Value} {y : DataW H × List MemPlace} (hl : cs.length = 2) (hc : ∀ j, j < 2 → w.cell? ⟨b, o + j, none⟩ = cs[j]?) (h : DataW.trod enc Try.prog w 0 (fun _ => true) true n 36 cs = some y) :
    ∃ x : Prf, CPrf w b o x := by
  obtain ⟨xs, m, _, _, _, hlen, hf⟩ := DataW.trod_struct Try.underlying36 h
  have hlen4 : xs.length = 2 := hlen
  have zi : Try.prog.cellsOf 34 = 1 := by kernel_rfl
  have zj : Try.prog.cellsOf 3 = 1 := by kernel_rfl
  have f0 := hf 0 _ rfl
  have f1 := hf 1 _ rfl
  match cs, hl, xs, hlen4 with
  | [c0, c1], _, [x0, x1], _ =>
    obtain ⟨n0, e0, _, _⟩ := DataW.trod_int Try.underlying34 f0
    obtain ⟨n1, e1, _, _⟩ := DataW.trod_int Try.underlying3 f1
    have k0 : c0 = .int .i64 n0 := by simpa [zi] using e0
    have k1 : c1 = .int .i64 n1 := by simpa [zj] using e1
    refine ⟨(n0, n1), ?_, ?_⟩
    · dsimp only; rw [← k0]; exact hc 0 (by omega)
    · dsimp only; rw [← k1]; exact hc 1 (by omega)
theorem prfs_open {H : Type} {enc : TypeId × Value → H} {w : World} {a : Option Addr} {len cap : Nat} {d : DataW H} {p : List MemPlace}
    (h : DataW.Trod enc Try.prog w 0 (fun _ => true) true 22 (.slice a len cap) d p) : ∃ l : List Prf, l.length = len ∧ (PrfsAt w a l ∧ l.length ≤ cap ∧ cap ≤ maxLen) := by
  obtain ⟨h1, h2, h3⟩ := slice_open Try.underlying22 (sz := 2) (by kernel_rfl) (by omega) h
  rcases h3 with h3 | ⟨b, off, ha, hb, hel⟩
  · exact ⟨[], h3.symm, ⟨.inl rfl, by simp [maxLen]⟩, by simp, h2⟩
  · obtain ⟨l, hl, hp⟩ := list_of (α := Prf) (p := fun i x => CPrf w b (off + i * 2) x) (fun i hi => by
      obtain ⟨cs, y, n, e1, e2, e3⟩ := hel i hi
      exact prf_open e1 e2 e3)
    exact ⟨l, hl, ⟨.inr ⟨b, off, ha, hb, fun i hi => hp i hi⟩, by omega⟩, by omega, h2⟩
theorem prf_agg {H : Type} {enc : TypeId × Value → H} {r : Reach} {b0 : Nat} {w : World} {v : Value} {d : DataW H} {p : List MemPlace} (hv : Value.okWide Try.prog w r b0 36 v)
    (h : DataW.Trod enc Try.prog w 0 (fun _ => true) true 36 v d p) : ∃ x : Prf, v = prfV x ∧ True := by
  obtain ⟨c0, c1, y0, y1, n, rfl, _, _, f0, f1⟩ := Joins.open_agg2 Try.underlying36 (by kernel_rfl) (by kernel_rfl) hv h
  obtain ⟨n0, e0, _, _⟩ := DataW.trod_int Try.underlying34 f0
  obtain ⟨n1, e1, _, _⟩ := DataW.trod_int Try.underlying3 f1
  simp at e0 e1
  exact ⟨(n0, n1), by rw [e0, e1], trivial⟩

/-! ### StrengthFresh, StrengthNeeds -/
theorem Kept.bel {w w' : World} (k : Kept [] w w') : Below w.heap.size w w' := k.toBelow (by simp)
set_option maxHeartbeats 1000000 in
theorem fresh_walk {w : World} {a : Option Addr} {cap : Nat} {l : List Prf} (h : PrfsAt w a l ∧ l.length ≤ cap ∧ cap ≤ maxLen) (level : Int) (_hl : (Lit.int .i64 level).wf = true) (age : Int) (_ha : (Lit.int .i64 age).wf = true) (now : Int) (_hn : (Lit.int .i64 now).wf = true) :
    Calls Try.prog 4 #[.slice a l.length cap, .int .i64 level, .int .i64 age, .int .i64 now] w fun e w' => e = .returned (.bool true) ∧ Below w.heap.size w w' := by
  have hp := h.1
  clear h _hl _ha _hn
  by_cases hm : 20 < l.length
  · have HM : decide (20 < l.length) = true := by simpa using hm
    have HL := hid (many_any (a := a) (cap := cap) (n := l.length) w)
    rw [HM] at HL
    go_enter Try.func4, Try.ntmps4
    go_wp2_with (first
      | (go_at_call 9; refine HL.out.mono ?_; rintro e w' ⟨rfl, rfl⟩)
      | (go_at_call 10; refine (live_any _).mono ?_; rintro e w1 ⟨rfl, k1⟩))
    go_ret
    exact ⟨rfl, k1.bel⟩
  · have HM : decide (20 < l.length) = false := by simpa using hm
    have HL := hid (many_any (a := a) (cap := cap) (n := l.length) w)
    rw [HM] at HL
    have hle : l.length ≤ 1000 := by omega
    have q : (meetsB l level age now == meetsB l level age now) = true := by simp
    generalize hmb : meetsB l level age now = mb at *
    have HB := hid hmb
    clear hmb hm
    go_enter Try.func4, Try.ntmps4
    go_wp2_with (first
      | (go_at_call 9; refine HL.out.mono ?_; rintro e w' ⟨rfl, rfl⟩)
      | (go_at_call 16; refine (fresh_any hp now age hle).mono ?_; rintro e w1 ⟨a1, c1, rfl, o1⟩)
      | (go_at_call 17; refine (rfresh_any (hp.kept o1.kept) now age hle).mono ?_; rintro e w2 ⟨a2, c2, rfl, o2⟩)
      | (go_at_call 15; refine (same_any (o1.later o2.kept).seq o2.seq rfl).mono ?_; rintro e w3 ⟨rfl, n3, rfl⟩; have k3 := (o1.kept.step o2.kept (by simp)).drewN n3)
      | (go_at_call 18; refine (meets_any (hp.kept k3) hle level age now).mono ?_; rw [HB.out]; rintro e w4 ⟨rfl, k4⟩; have k34 := k3.step k4 (by simp))
      | (go_at_call 19; refine (rmeets_any (hp.kept k34) hle level age now).mono ?_; rw [HB.out]; rintro e w5 ⟨rfl, k5⟩; have k35 := k34.step k5 (by simp))
      | (go_at_call 10; refine (live_any _).mono ?_; rintro e w6 ⟨rfl, k6⟩))
    go_ret
    exact ⟨rfl, (k35.step k6 (by simp)).bel⟩
end Go.Proofs.Ytmipnhdfhgekkaa
