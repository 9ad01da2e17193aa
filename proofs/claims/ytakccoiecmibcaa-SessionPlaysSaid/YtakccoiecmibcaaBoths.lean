/- The program's sessions and the reference's, side by side. -/
import Derived.Test.YtakccoiecmibcaaDone
import Derived.Test.YtakccoiecmibcaaSame
namespace Go.Proofs.Ytakccoiecmibcaa
open Go.RowKit Go.Maps

/-- Both records since w0, and a list that is to stay. -/
structure Both (w0 w : World) (sb mb : Nat) (idle abs : Int) (UA : Sss) (qb : Nat) (UB : Sss) (la : Option Addr) (ll : List Str) : Prop where
  both : ∃ X ra rc Y, SesAt w sb mb idle abs X ∧ absW X = UA ∧ RefAt w qb idle abs ra rc Y ∧ absK Y = UB ∧ Kept [] w0 w ∧ (∀ i ∈ sdom sb mb X, w0.heap.size ≤ i) ∧ (∀ i ∈ rdom qb ra Y, w0.heap.size ≤ i) ∧ (∀ i ∈ sdom sb mb X, i ∉ rdom qb ra Y) ∧ StrsAt w la ll ∧ ∀ i ∈ fp la, i ∉ rdom qb ra Y
section
variable {w0 w w' : World} {sb mb qb : Nat} {idle abs : Int} {UA UB : Sss} {la : Option Addr} {ll : List Str}
theorem Both.kept (h : Both w0 w sb mb idle abs UA qb UB la ll) : Kept [] w0 w := by
  obtain ⟨_, _, _, _, _, _, _, _, k, _⟩ := h.both; exact k
theorem Both.list (h : Both w0 w sb mb idle abs UA qb UB la ll) : StrsAt w la ll := by
  obtain ⟨_, _, _, _, _, _, _, _, _, _, _, _, hl, _⟩ := h.both; exact hl
theorem Both.keptN (h : Both w0 w sb mb idle abs UA qb UB la ll) (k' : Kept [] w w') : Both w0 w' sb mb idle abs UA qb UB la ll := by
  obtain ⟨X, ra, rc, Y, h1, h2, h3, h4, k, h5, h6, h7, hl, hn⟩ := h.both
  exact ⟨X, ra, rc, Y, h1.keptN k', h2, h3.keptN k', h4, k.step k' (by simp), h5, h6, h7, hl.keptN k', hn⟩
theorem new_both {p : List Nat} {wp : World} {i0 a0 : Int} (h : St w0 w sb mb (lim i0) (lim a0) UA p wp) (hc : newC i0 a0 = 0) : Calls Try.prog 19 #[.int .i64 i0, .int .i64 a0] w fun e w' => ∃ qb, e = .returned (.tuple #[.pointer (some ⟨qb, 0, none⟩), .int .i64 0]) ∧ Both w0 w' sb mb (lim i0) (lim a0) UA qb [] none [] := by
  obtain ⟨X, h1, e, k, hd, _⟩ := h.st
  refine (rnew_ok hc w).mono ?_
  rintro e' w' ⟨rfl, h2, k2⟩
  have hsz := k.size
  refine ⟨_, rfl, X, none, 0, [], h1.keptN k2, e, h2, rfl, k.step k2 (by simp), hd, fun i hi => ?_, fun i hi hj => ?_, list_nil _ none, by simp [fp]⟩
  · simp [rdom, fp] at hi; omega
  · have := h1.lt i hi; simp [rdom, fp] at hj; omega
theorem do_both (h : Both w0 w sb mb idle abs UA qb UB la ll) (x : OpD) (hs : Small x) (hl : PrfsAt w x.pa x.proofs) :
    Calls Try.prog 20 #[.pointer (some ⟨sb, 0, none⟩), .agg #[.int .i64 x.call, .int .i64 x.now, .string ⟨x.id.toArray⟩, .string ⟨x.user.toArray⟩, .string ⟨x.tenant.toArray⟩, .string ⟨x.device.toArray⟩, .string ⟨x.client.toArray⟩, .slice x.pa x.proofs.length x.pc]] w fun e w' => ∃ a c, e = .returned (.tuple #[.slice a (doL UA x).length c, .int .i64 (doE UA x)]) ∧ Both w0 w' sb mb idle abs (doU idle abs UA x) qb UB a (doL UA x) := by
  obtain ⟨X, ra, rc, Y, h1, rfl, h3, rfl, k, h5, h6, h7, _, _⟩ := h.both
  refine (do_any h1 x hs hl).mono ?_
  rintro e w' ⟨⟨a, c, rfl, st, hn⟩, X', h1', e', k', hd⟩
  refine ⟨a, c, rfl, X', ra, rc, Y, h1', e', h3.kept k' (fun i hi hj => h7 i hj hi), rfl, k.trans k' (fun i hi => .inr (h5 i hi)), fun i hi => (hd i hi).elim (h5 i) (fun e => Nat.le_trans k.size e), h6, fun i hi hj => ?_, st, fun i hi hj => ?_⟩
  · rcases hd i hi with e | e
    · exact h7 i e hj
    · have := h3.lt i hj; omega
  · have := hn i hi; have := h3.lt i hj; omega
theorem done_both (h : Both w0 w sb mb idle abs UA qb UB la ll) (x : OpD) (hs : Small x) (hl : PrfsAt w x.pa x.proofs) :
    Calls Try.prog 21 #[.pointer (some ⟨qb, 0, none⟩), .agg #[.int .i64 x.call, .int .i64 x.now, .string ⟨x.id.toArray⟩, .string ⟨x.user.toArray⟩, .string ⟨x.tenant.toArray⟩, .string ⟨x.device.toArray⟩, .string ⟨x.client.toArray⟩, .slice x.pa x.proofs.length x.pc]] w fun e w' => ∃ a c, e = .returned (.tuple #[.slice a (doL UB x).length c, .int .i64 (doE UB x)]) ∧ StrsAt w' a (doL UB x) ∧ StrsAt w' la ll ∧ Both w0 w' sb mb idle abs UA qb (doU idle abs UB x) none [] := by
  obtain ⟨X, ra, rc, Y, h1, rfl, h3, rfl, k, h5, h6, h7, hll, hnl⟩ := h.both
  refine (done_any h3 x hs hl).mono ?_
  rintro e w' ⟨⟨a, c, rfl, st⟩, hL⟩
  have k' := hL.kept
  obtain ⟨a', c', Y', h3', e', _, hd⟩ := hL
  refine ⟨a, c, rfl, st, SeqAt.kept hll CEnc.lasts k' (fun _ y hy => hnl _ (by subst hy; simp [fp])), X, a', c', Y', h1.kept k' (fun i hi => h7 i hi), rfl, h3', e', k.trans k' (fun i hi => .inr (h6 i hi)), h5, fun i hi => (hd i hi).elim (h6 i) (fun e => Nat.le_trans k.size e), fun i hi hj => ?_, list_nil _ none, by simp [fp]⟩
  rcases hd i hj with e | e
  · exact h7 i hi e
  · have := h1.lt i hi; omega
theorem get_both (h : Both w0 w sb mb idle abs UA qb UB la ll) (s : ByteArray) (hs : s.size ≤ maxLen) (now : Int) {r : Str × Sess} {c : Int} (hc : findC UA s.data.toList now = c) (hr : getR UA s.data.toList now = r) :
    Calls Try.prog 13 #[.pointer (some ⟨sb, 0, none⟩), .string s, .int .i64 now] w fun e w' => Got w w' e r c := by
  obtain ⟨X, ra, rc, Y, h1, rfl, h3, rfl, k, h5, h6, h7, _, _⟩ := h.both
  subst hc; subst hr
  exact get_any h1 s hs now
theorem rget_both (h : Both w0 w sb mb idle abs UA qb UB la ll) (s : ByteArray) (now : Int) {r : Str × Sess} {c : Int} (hc : findC UB s.data.toList now = c) (hr : getR UB s.data.toList now = r) :
    Calls Try.prog 22 #[.pointer (some ⟨qb, 0, none⟩), .string s, .int .i64 now] w fun e w' => GotR w w' e r c := by
  obtain ⟨X, ra, rc, Y, h1, rfl, h3, rfl, k, h5, h6, h7, _, _⟩ := h.both
  subst hc; subst hr
  exact rget_any h3 s now
theorem len_both (h : Both w0 w sb mb idle abs UA qb UB la ll) {n : Nat} (hn : lenN UA = n) :
    Calls Try.prog 14 #[.pointer (some ⟨sb, 0, none⟩)] w fun e w' => e = .returned (.int .i64 n) ∧ Kept [] w w' := by
  obtain ⟨X, ra, rc, Y, h1, rfl, h3, rfl, k, h5, h6, h7, _, _⟩ := h.both
  subst hn
  exact len_any h1
theorem rlen_both (h : Both w0 w sb mb idle abs UA qb UB la ll) {n : Nat} (hn : lenN UB = n) :
    Calls Try.prog 24 #[.pointer (some ⟨qb, 0, none⟩)] w fun e w' => e = .returned (.int .i64 n) ∧ Kept [] w w' := by
  obtain ⟨X, ra, rc, Y, h1, rfl, h3, rfl, k, h5, h6, h7, _, _⟩ := h.both
  subst hn
  refine (rlen_any h3).mono ?_
  rintro e w' ⟨rfl, rfl⟩
  exact ⟨rfl, Kept.refl _ _⟩
theorem of_both (h : Both w0 w sb mb idle abs UA qb UB la ll) (u : ByteArray) (now : Int) {l : List Str} (hl : ofL UA u.data.toList now = l) :
    Calls Try.prog 15 #[.pointer (some ⟨sb, 0, none⟩), .string u, .int .i64 now] w fun e w' => Gives w w' e l := by
  obtain ⟨X, ra, rc, Y, h1, rfl, h3, rfl, k, h5, h6, h7, _, _⟩ := h.both
  subst hl
  exact of_any h1 u now
theorem rof_both (h : Both w0 w sb mb idle abs UA qb UB la ll) (u : ByteArray) (now : Int) {l : List Str} (hl : ofL UB u.data.toList now = l) :
    Calls Try.prog 26 #[.pointer (some ⟨qb, 0, none⟩), .string u, .int .i64 now] w fun e w' => Gives w w' e l := by
  obtain ⟨X, ra, rc, Y, h1, rfl, h3, rfl, k, h5, h6, h7, _, _⟩ := h.both
  subst hl
  exact rof_any h3 u now
end
end Go.Proofs.Ytakccoiecmibcaa
