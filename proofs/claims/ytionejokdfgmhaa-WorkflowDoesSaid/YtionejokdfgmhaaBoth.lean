/- The program's workflows and the reference's, side by side. -/
import Derived.Test.YtionejokdfgmhaaModel
import Derived.Test.YtionejokdfgmhaaSame
namespace Go.Proofs.Ytionejokdfgmhaa
open Go.RowKit Go.Maps

/-- Both records since w0, and a list that is to stay. -/
structure Both (w0 w : World) (wb mb : Nat) (UA : Wfs) (qb : Nat) (UB : Wfs) (la : Option Addr) (ll : List Str) : Prop where
  both : ∃ X ra rc Y, WfAt w wb mb X ∧ absW X = UA ∧ RefAt w qb ra rc Y ∧ absR Y = UB ∧ Kept [] w0 w ∧ (∀ i ∈ wdom wb mb X, w0.heap.size ≤ i) ∧ (∀ i ∈ rdom qb ra Y, w0.heap.size ≤ i) ∧ (∀ i ∈ wdom wb mb X, i ∉ rdom qb ra Y) ∧ StrsAt w la ll ∧ ∀ i ∈ fp la, i ∉ rdom qb ra Y
theorem Both.kept {w0 w : World} {wb mb qb : Nat} {UA UB : Wfs} {la : Option Addr} {ll : List Str} (h : Both w0 w wb mb UA qb UB la ll) : Kept [] w0 w := by
  obtain ⟨_, _, _, _, _, _, _, _, k, _⟩ := h.both; exact k
theorem Both.list {w0 w : World} {wb mb qb : Nat} {UA UB : Wfs} {la : Option Addr} {ll : List Str} (h : Both w0 w wb mb UA qb UB la ll) : StrsAt w la ll := by
  obtain ⟨_, _, _, _, _, _, _, _, _, _, _, _, hl, _⟩ := h.both; exact hl
theorem Both.keptN {w0 w w' : World} {wb mb qb : Nat} {UA UB : Wfs} {la : Option Addr} {ll : List Str} (h : Both w0 w wb mb UA qb UB la ll) (k' : Kept [] w w') : Both w0 w' wb mb UA qb UB la ll := by
  obtain ⟨X, ra, rc, Y, h1, h2, h3, h4, k, h5, h6, h7, hl, hn⟩ := h.both
  exact ⟨X, ra, rc, Y, h1.keptN k', h2, h3.keptN k', h4, k.step k' (by simp), h5, h6, h7, hl.keptN k', hn⟩
theorem Both.forget {w0 w : World} {wb mb qb : Nat} {UA UB : Wfs} {la : Option Addr} {ll : List Str} (h : Both w0 w wb mb UA qb UB la ll) : Both w0 w wb mb UA qb UB none [] := by
  obtain ⟨X, ra, rc, Y, h1, h2, h3, h4, k, h5, h6, h7, hl, hn⟩ := h.both
  exact ⟨X, ra, rc, Y, h1, h2, h3, h4, k, h5, h6, h7, list_nil w none, by simp [fp]⟩
theorem new_both {w0 w : World} {wb mb : Nat} {U : Wfs} {p : Prot} (h : St w0 w wb mb U p) : Calls Try.prog 12 #[] w fun e w' => ∃ qb, e = .returned (.pointer (some ⟨qb, 0, none⟩)) ∧ Both w0 w' wb mb U qb [] none [] := by
  obtain ⟨X, h1, e, k, hd, _⟩ := h.st
  refine (rnew_any w).mono ?_
  rintro e' w' ⟨qb, rfl, hq, h2, k2⟩
  have hsz := k.size
  refine ⟨qb, rfl, X, none, 0, [], h1.keptN k2, e, h2, rfl, k.step k2 (by simp), hd, fun i hi => ?_, fun i hi hj => ?_, list_nil _ none, by simp [fp]⟩
  · simp [rdom, fp] at hi; omega
  · have := h1.lt i hi; simp [rdom, fp] at hj; omega
theorem do_both {w0 w : World} {wb mb qb : Nat} {UA UB : Wfs} {la : Option Addr} {ll : List Str} (h : Both w0 w wb mb UA qb UB la ll) (x : OpD) (hs : Small x) (hl : OpLists w x) :
    Calls Try.prog 14 #[.pointer (some ⟨wb, 0, none⟩), .agg #[.int .i64 x.kind, .string ⟨x.id.toArray⟩, .string ⟨x.name.toArray⟩, .string ⟨x.user.toArray⟩, .string ⟨x.by_.toArray⟩, .slice x.sa x.steps.length x.sc, .slice x.ga x.groups.length x.gc, .int .i64 x.until_, .int .i64 x.now]] w fun e w' => ∃ a c, e = .returned (.agg #[.string ⟨(doR UA x).a.toArray⟩, .string ⟨(doR UA x).b.toArray⟩, .slice a (doR UA x).list.length c, .int .i64 (doR UA x).n, .int .i64 (doR UA x).e]) ∧ Both w0 w' wb mb (doU UA x) qb UB a (doR UA x).list := by
  obtain ⟨X, ra, rc, Y, h1, rfl, h3, rfl, k, h5, h6, h7, _, _⟩ := h.both
  refine (do_any h1 x hs hl).mono ?_
  rintro e w' ⟨⟨a, c, rfl, st, hn⟩, X', h1', e', k', hd⟩
  refine ⟨a, c, rfl, X', ra, rc, Y, h1', e', h3.kept k' (fun i hi hj => h7 i hj hi), rfl, k.trans k' (fun i hi => .inr (h5 i hi)), fun i hi => (hd i hi).elim (h5 i) (fun e => Nat.le_trans k.size e), h6, fun i hi hj => ?_, st, fun i hi hj => ?_⟩
  · rcases hd i hi with e | e
    · exact h7 i e hj
    · have := h3.lt i hj; omega
  · have := hn i hi; have := h3.lt i hj; omega
theorem model_both {w0 w : World} {wb mb qb : Nat} {UA UB : Wfs} {la : Option Addr} {ll : List Str} (h : Both w0 w wb mb UA qb UB la ll) (x : OpD) (hs : Small x) (hl : OpLists w x) :
    Calls Try.prog 15 #[.pointer (some ⟨qb, 0, none⟩), .agg #[.int .i64 x.kind, .string ⟨x.id.toArray⟩, .string ⟨x.name.toArray⟩, .string ⟨x.user.toArray⟩, .string ⟨x.by_.toArray⟩, .slice x.sa x.steps.length x.sc, .slice x.ga x.groups.length x.gc, .int .i64 x.until_, .int .i64 x.now]] w fun e w' => ∃ a c, e = .returned (.agg #[.string ⟨(doR UB x).a.toArray⟩, .string ⟨(doR UB x).b.toArray⟩, .slice a (doR UB x).list.length c, .int .i64 (doR UB x).n, .int .i64 (doR UB x).e]) ∧ StrsAt w' a (doR UB x).list ∧ StrsAt w' la ll ∧ Both w0 w' wb mb UA qb (doU UB x) none [] := by
  obtain ⟨X, ra, rc, Y, h1, rfl, h3, rfl, k, h5, h6, h7, hll, hnl⟩ := h.both
  refine (model_any h3 x hs hl).mono ?_
  rintro e w' ⟨⟨a, c, rfl, st, hn⟩, hL⟩
  have k' := hL.kept
  obtain ⟨a', c', Y', h3', e', _, hd⟩ := hL
  refine ⟨a, c, rfl, st, SeqAt.kept hll CEnc.lasts k' (fun _ y hy => hnl _ (by subst hy; simp [fp])), X, a', c', Y', h1.kept k' (fun i hi => h7 i hi), rfl, h3', e', k.trans k' (fun i hi => .inr (h6 i hi)), h5, fun i hi => (hd i hi).elim (h6 i) (fun e => Nat.le_trans k.size e), fun i hi hj => ?_, list_nil _ none, by simp [fp]⟩
  rcases hd i hj with e | e
  · exact h7 i hi e
  · have := h1.lt i hi; omega
theorem state_both {w0 w : World} {wb mb qb : Nat} {UA UB : Wfs} {la : Option Addr} {ll : List Str} (h : Both w0 w wb mb UA qb UB la ll) (s : ByteArray) (hs : s.size ≤ maxLen) (now : Int) {r : Str × Nat} (hc : stR UA s.data.toList now = r) :
    Calls Try.prog 16 #[.pointer (some ⟨wb, 0, none⟩), .string s, .int .i64 now] w fun e w' => e = .returned (.tuple #[.string ⟨r.1.toArray⟩, .int .i64 (r.2 : Nat)]) ∧ Kept [] w w' := by
  obtain ⟨X, ra, rc, Y, h1, rfl, h3, rfl, k, h5, h6, h7, _, _⟩ := h.both
  subst hc
  exact (statew_any h1 s hs now).mono fun _ _ ⟨e, hL⟩ => ⟨e, hL.kept⟩
theorem rstate_both {w0 w : World} {wb mb qb : Nat} {UA UB : Wfs} {la : Option Addr} {ll : List Str} (h : Both w0 w wb mb UA qb UB la ll) (s : ByteArray) (now : Int) {r : Str × Nat} (hc : stR UB s.data.toList now = r) :
    Calls Try.prog 17 #[.pointer (some ⟨qb, 0, none⟩), .string s, .int .i64 now] w fun e w' => e = .returned (.tuple #[.string ⟨r.1.toArray⟩, .int .i64 (r.2 : Nat)]) ∧ Kept [] w w' := by
  obtain ⟨X, ra, rc, Y, h1, rfl, h3, rfl, k, h5, h6, h7, _, _⟩ := h.both
  subst hc
  exact rstate_any h3 s now
end Go.Proofs.Ytionejokdfgmhaa
