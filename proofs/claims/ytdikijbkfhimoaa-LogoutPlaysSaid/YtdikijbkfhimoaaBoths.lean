/- The program's record and the reference's, side by side. -/
import Derived.Test.YtdikijbkfhimoaaRla
import Derived.Test.YtdikijbkfhimoaaPlay
namespace Go.Proofs.Ytdikijbkfhimoaa
open Go.RowKit Go.Maps

structure BothC (w0 w : World) (lb mb qb most delay : Nat) (X : SBs) (a : Option Addr) (cap : Nat) (Y : List RQ) (UB : Log) (p : List (Nat × Obj)) : Prop where
  log : LogAt w lb mb most delay X
  ref : RAt w qb most delay a cap Y
  rel : Rel UB Y
  good : Good most delay UB
  kept : Kept [] w0 w
  ln : ∀ i ∈ ldom lb mb X, w0.heap.size ≤ i
  rn : ∀ i ∈ rdom qb a Y, w0.heap.size ≤ i
  apart : ∀ i ∈ ldom lb mb X, i ∉ rdom qb a Y
  pins : ∀ q ∈ p, q.1 ∉ ldom lb mb X ∧ q.1 ∉ rdom qb a Y ∧ w.heap[q.1]? = some q.2
/-- Both records since w0; the blocks of p are as p says. -/
def Both (w0 w : World) (lb mb qb most delay : Nat) (UA UB : Log) (p : List (Nat × Obj)) : Prop := ∃ X a cap Y, BothC w0 w lb mb qb most delay X a cap Y UB p ∧ absL X = UA
section
variable {w0 w w' : World} {lb mb qb most delay : Nat} {X : SBs} {a : Option Addr} {cap : Nat} {Y : List RQ} {UA UB U U' : Log} {p : List (Nat × Obj)}
theorem BothC.prog (h : BothC w0 w lb mb qb most delay X a cap Y UB p) (hL : Left w w' lb mb most delay X U') : Both w0 w' lb mb qb most delay U' UB p := by
  obtain ⟨X', h1, e, k, hd⟩ := hL
  refine ⟨X', a, cap, Y, ⟨h1, h.ref.kept k (fun i hi hj => h.apart i hj hi), h.rel, h.good, h.kept.trans k (fun i hi => .inr (h.ln i hi)), fun i hi => (hd i hi).elim (h.ln i) (fun e => Nat.le_trans h.kept.size e), h.rn, fun i hi hj => ?_, fun q hq => ?_⟩, e⟩
  · rcases hd i hi with e | e
    · exact h.apart i e hj
    · have := h.ref.lt i hj; omega
  · obtain ⟨p1, p2, p3⟩ := h.pins q hq
    refine ⟨fun hm => ?_, p2, k.at p3 p1⟩
    rcases hd _ hm with e | e
    · exact p1 e
    · have := lt_of_heap p3; omega
theorem BothC.refd (h : BothC w0 w lb mb qb most delay X a cap Y UB p) (hL : RLeft w w' qb most delay a Y U') (hg : Good most delay U') : Both w0 w' lb mb qb most delay (absL X) U' p := by
  obtain ⟨a', cap', Y', h1, hr, k, hd⟩ := hL
  refine ⟨X, a', cap', Y', ⟨h.log.kept k (fun i hi hj => h.apart i hi hj), h1, hr, hg, h.kept.trans k (fun i hi => .inr (h.rn i hi)), h.ln, fun i hi => (hd i hi).elim (h.rn i) (fun e => Nat.le_trans h.kept.size e), fun i hi hj => ?_, fun q hq => ?_⟩, rfl⟩
  · rcases hd i hj with e | e
    · exact h.apart i hi e
    · have := h.log.lt i hi; omega
  · obtain ⟨p1, p2, p3⟩ := h.pins q hq
    refine ⟨p1, fun hm => ?_, k.at p3 p2⟩
    rcases hd _ hm with e | e
    · exact p2 e
    · have := lt_of_heap p3; omega
theorem Both.kept (h : Both w0 w lb mb qb most delay UA UB p) : Kept [] w0 w := by obtain ⟨_, _, _, _, h, _⟩ := h; exact h.kept
theorem Both.keptN (h : Both w0 w lb mb qb most delay UA UB p) (k : Kept [] w w') : Both w0 w' lb mb qb most delay UA UB p := by
  obtain ⟨X, a, cap, Y, h, e⟩ := h
  exact ⟨X, a, cap, Y, ⟨h.log.keptN k, h.ref.keptN k, h.rel, h.good, h.kept.step k (by simp), h.ln, h.rn, h.apart, fun q hq => ⟨(h.pins q hq).1, (h.pins q hq).2.1, k.at (h.pins q hq).2.2 (by simp)⟩⟩, e⟩
theorem Both.nil (h : Both w0 w lb mb qb most delay UA UB p) : Both w0 w lb mb qb most delay UA UB [] := by
  obtain ⟨X, a, cap, Y, h, e⟩ := h
  exact ⟨X, a, cap, Y, ⟨h.log, h.ref, h.rel, h.good, h.kept, h.ln, h.rn, h.apart, by simp⟩, e⟩
theorem Both.pin (h : Both w0 w lb mb qb most delay UA UB p) {q : Nat × Obj} (hq : q ∈ p) : w.heap[q.1]? = some q.2 := by
  obtain ⟨X, a, cap, Y, h, e⟩ := h
  exact (h.pins q hq).2.2
/-- A block that has just been made is pinned. -/
theorem Both.box (h : Both w0 w lb mb qb most delay UA UB p) (o : Obj) : Both w0 (w.alloc o) lb mb qb most delay UA UB [(w.heap.size, o)] := by
  obtain ⟨X, a, cap, Y, h, e⟩ := h
  have k := (Kept.refl [] w).alloc o
  refine ⟨X, a, cap, Y, ⟨h.log.keptN k, h.ref.keptN k, h.rel, h.good, h.kept.step k (by simp), h.ln, h.rn, h.apart, fun q hq => ?_⟩, e⟩
  simp at hq
  subst hq
  exact ⟨fun hm => Nat.lt_irrefl _ (h.log.lt _ hm), fun hm => Nat.lt_irrefl _ (h.ref.lt _ hm), heap_alloc_new w o⟩
theorem new_both (h : St w0 w lb mb most delay U []) (hU : U = []) (h1 : 1 ≤ most) (h2 : most ≤ 8) (h3 : 1 ≤ delay) (h4 : delay ≤ 3600) :
    Calls Try.prog 12 #[.int .i64 (most : Int), .int .i64 (delay : Int)] w fun e w' => ∃ qb, e = .returned (.tuple #[.pointer (some ⟨qb, 0, none⟩), .int .i64 0]) ∧ Both w0 w' lb mb qb most delay [] [] [] := by
  obtain ⟨X, hl, e, k0, hd, _⟩ := h.st
  refine (rnew_ok w h1 h2 h3 h4).mono ?_
  rintro e' w' ⟨rfl, hR, k⟩
  have hz := k0.size
  refine ⟨_, rfl, X, none, 0, [], ⟨hl.keptN k, hR, Rel.nil, ?_, k0.step k (by simp), hd, fun i hi => ?_, fun i hi hj => ?_, by simp⟩, e.trans hU⟩
  · have := hl.good
    rw [e, hU] at this
    exact this
  · simp [rdom, fp] at hi; omega
  · have := hl.lt i hi; simp [rdom, fp] at hj; omega
theorem begin_both (h : Both w0 w lb mb qb most delay UA UB p) (s : ByteArray) (hs : s.size ≤ maxLen) {ca : Option Addr} {cc : Nat} {cl : List Str} (hcl : StrsAt w ca cl) (hz : ∀ c ∈ cl, c.length ≤ 1000000) (hcap : cl.length ≤ cc) (now : Int) :
    Calls Try.prog 13 #[.pointer (some ⟨lb, 0, none⟩), .string s, .slice ca cl.length cc, .int .i64 now] w fun e w' => e = .returned (.int .i64 (beginE UA s.data.toList cl)) ∧ Both w0 w' lb mb qb most delay (beginU UA s.data.toList cl now) UB p := by
  obtain ⟨X, a, cap, Y, h, rfl⟩ := h
  exact (begin_any h.log s hs hcl hz hcap now).mono fun _ _ ⟨e, hL⟩ => ⟨e, h.prog hL⟩
theorem rbegin_both (h : Both w0 w lb mb qb most delay UA UB p) (s : ByteArray) (hs : s.size ≤ maxLen) {ca : Option Addr} {cc : Nat} {cl : List Str} (hcl : StrsAt w ca cl) (hz : ∀ c ∈ cl, c.length ≤ 1000000) (now : Int) (hA : UA = beginU UB s.data.toList cl now) :
    Calls Try.prog 14 #[.pointer (some ⟨qb, 0, none⟩), .string s, .slice ca cl.length cc, .int .i64 now] w fun e w' => e = .returned (.int .i64 (beginE UB s.data.toList cl)) ∧ Both w0 w' lb mb qb most delay UA UA p := by
  obtain ⟨X, a, cap, Y, h, rfl⟩ := h
  refine (rbegin_any h.ref h.rel s hs hcl hz now).mono fun _ _ ⟨e, hL⟩ => ⟨e, ?_⟩
  rw [← hA] at hL
  exact h.refd hL h.log.good
theorem done_both (h : Both w0 w lb mb qb most delay UA UB p) (s c : ByteArray) (hs : s.size ≤ maxLen) (hc : c.size ≤ maxLen) (now : Int) :
    Calls Try.prog 18 #[.pointer (some ⟨lb, 0, none⟩), .string s, .string c, .int .i64 now] w fun e w' => e = .returned (.int .i64 (endE UA s.data.toList c.data.toList)) ∧ Both w0 w' lb mb qb most delay (endU doneN UA s.data.toList c.data.toList) UB p := by
  obtain ⟨X, a, cap, Y, h, rfl⟩ := h
  exact (done_any h.log s c hs hc now).mono fun _ _ ⟨e, hL⟩ => ⟨e, h.prog hL⟩
theorem rdone_both (h : Both w0 w lb mb qb most delay UA UB p) (s c : ByteArray) (now : Int) (hA : UA = endU doneN UB s.data.toList c.data.toList) :
    Calls Try.prog 19 #[.pointer (some ⟨qb, 0, none⟩), .string s, .string c, .int .i64 now] w fun e w' => e = .returned (.int .i64 (endE UB s.data.toList c.data.toList)) ∧ Both w0 w' lb mb qb most delay UA UA p := by
  obtain ⟨X, a, cap, Y, h, rfl⟩ := h
  refine (rdone_any h.ref h.rel h.good s c now).mono fun _ _ ⟨e, hL⟩ => ⟨e, ?_⟩
  rw [← hA] at hL
  exact h.refd hL h.log.good
theorem fail_both (h : Both w0 w lb mb qb most delay UA UB p) (s c : ByteArray) (hs : s.size ≤ maxLen) (hc : c.size ≤ maxLen) (now : Int) :
    Calls Try.prog 20 #[.pointer (some ⟨lb, 0, none⟩), .string s, .string c, .int .i64 now] w fun e w' => e = .returned (.int .i64 (endE UA s.data.toList c.data.toList)) ∧ Both w0 w' lb mb qb most delay (endU (failN most) UA s.data.toList c.data.toList) UB p := by
  obtain ⟨X, a, cap, Y, h, rfl⟩ := h
  exact (fail_any h.log s c hs hc now).mono fun _ _ ⟨e, hL⟩ => ⟨e, h.prog hL⟩
theorem rfail_both (h : Both w0 w lb mb qb most delay UA UB p) (s c : ByteArray) (now : Int) (hA : UA = endU (failN most) UB s.data.toList c.data.toList) :
    Calls Try.prog 21 #[.pointer (some ⟨qb, 0, none⟩), .string s, .string c, .int .i64 now] w fun e w' => e = .returned (.int .i64 (endE UB s.data.toList c.data.toList)) ∧ Both w0 w' lb mb qb most delay UA UA p := by
  obtain ⟨X, a, cap, Y, h, rfl⟩ := h
  refine (rfail_any h.ref h.rel h.good s c now).mono fun _ _ ⟨e, hL⟩ => ⟨e, ?_⟩
  rw [← hA] at hL
  exact h.refd hL h.log.good
theorem status_both (h : Both w0 w lb mb qb most delay UA UB p) (s : ByteArray) (hs : s.size ≤ maxLen) {S : Nat × Nat × Nat} (hS : statS UA s.data.toList = S) :
    Calls Try.prog 22 #[.pointer (some ⟨lb, 0, none⟩), .string s] w fun e w' => e = .returned (.tuple #[.int .i64 (S.1 : Nat), .int .i64 (S.2.1 : Nat), .int .i64 (S.2.2 : Nat)]) ∧ Kept [] w w' := by
  obtain ⟨X, a, cap, Y, h, rfl⟩ := h
  subst hS
  exact status_any h.log s hs
theorem rstatus_both (h : Both w0 w lb mb qb most delay UA UB p) (s : ByteArray) {S : Nat × Nat × Nat} (hS : statS UB s.data.toList = S) :
    Calls Try.prog 23 #[.pointer (some ⟨qb, 0, none⟩), .string s] w fun e w' => e = .returned (.tuple #[.int .i64 (S.1 : Nat), .int .i64 (S.2.1 : Nat), .int .i64 (S.2.2 : Nat)]) ∧ w = w' := by
  obtain ⟨X, a, cap, Y, h, rfl⟩ := h
  subst hS
  exact rstatus_any h.ref h.rel s
theorem given_both (h : Both w0 w lb mb qb most delay UA UB p) (s : ByteArray) (hs : s.size ≤ maxLen) {G : List Str} (hG : givenL UA s.data.toList = G) :
    Calls Try.prog 25 #[.pointer (some ⟨lb, 0, none⟩), .string s] w fun e w' => ∃ pa pc, e = .returned (.slice pa G.length pc) ∧ StrsAt w' pa G ∧ Kept [] w w' := by
  obtain ⟨X, a, cap, Y, h, rfl⟩ := h
  subst hG
  exact (given_any h.log s hs).mono fun _ _ ⟨pa, pc, e, o⟩ => ⟨pa, pc, e, o.seq encSOk, o.kept⟩
theorem rgiven_both (h : Both w0 w lb mb qb most delay UA UB p) (s : ByteArray) {G : List Str} (hG : givenL UB s.data.toList = G) :
    Calls Try.prog 26 #[.pointer (some ⟨qb, 0, none⟩), .string s] w fun e w' => ∃ pa pc, e = .returned (.slice pa G.length pc) ∧ StrsAt w' pa G ∧ Kept [] w w' := by
  obtain ⟨X, a, cap, Y, h, rfl⟩ := h
  subst hG
  exact (rgiven_any h.ref h.rel h.good s).mono fun _ _ ⟨pa, pc, e, o⟩ => ⟨pa, pc, e, o.seq encSOk, o.kept⟩
theorem bound_both (h : Both w0 w lb mb qb most delay UA UB p) :
    Calls Try.prog 27 #[.pointer (some ⟨lb, 0, none⟩)] w fun e w' => e = .returned (.int .i64 (afterN delay (most - 1) : Nat)) ∧ Kept [] w w' := by
  obtain ⟨X, a, cap, Y, h, rfl⟩ := h
  exact (bound_any h.log).mono fun _ _ ⟨e, k⟩ => ⟨e, k.kept⟩
theorem rbound_both (h : Both w0 w lb mb qb most delay UA UB p) :
    Calls Try.prog 28 #[.pointer (some ⟨qb, 0, none⟩)] w fun e w' => e = .returned (.int .i64 (afterN delay (most - 1) : Nat)) ∧ Kept [] w w' := by
  obtain ⟨X, a, cap, Y, h, rfl⟩ := h
  exact (rbound_any h.ref).mono fun _ _ ⟨e, k⟩ => ⟨e, k.kept⟩
theorem due_both (h : Both w0 w lb mb qb most delay UA UB p) (t : Int) :
    Calls Try.prog 16 #[.pointer (some ⟨lb, 0, none⟩), .int .i64 t] w fun e w' => ∃ m pa pc, Due delay (lim t) UA m ∧ e = .returned (.slice pa m.length pc) ∧ PrsAt w' pa m ∧ (∀ i ∈ fp pa, i < w'.heap.size) ∧ Both w0 w' lb mb qb most delay (dueU delay (lim t) UA) UB (pinOf w' pa ++ p) := by
  obtain ⟨X, a, cap, Y, h, rfl⟩ := h
  refine (due_any h.log t).mono ?_
  rintro e w' ⟨m, pa, pc, rfl, o, hn, hdu, hL⟩
  refine ⟨m, pa, pc, hdu, rfl, o.seq encPrOk, fun i hi => o.lt i hi, ?_⟩
  obtain ⟨X', h1, e', k, hd⟩ := hL
  have hb := h.prog ⟨X', h1, e', k, hd⟩
  refine ⟨X', a, cap, Y, ⟨h1, h.ref.kept k (fun i hi hj => h.apart i hj hi), h.rel, h.good, h.kept.trans k (fun i hi => .inr (h.ln i hi)), fun i hi => (hd i hi).elim (h.ln i) (fun e => Nat.le_trans h.kept.size e), h.rn, fun i hi hj => ?_, fun q hq => ?_⟩, e'⟩
  · rcases hd i hi with e | e
    · exact h.apart i e hj
    · have := h.ref.lt i hj; omega
  · rcases List.mem_append.1 hq with hq | hq
    · obtain ⟨h2, h3⟩ := pinOf_sub hq
      obtain ⟨cur, hc⟩ := row_blk o.row _ h2
      refine ⟨fun hm => ?_, fun hm => ?_, h3⟩
      · rcases ldom_mem.1 hm with e | e | ⟨x, hx, e⟩
        · rw [e, h1.blk] at hc
          injection hc with hc
          injection hc with _ hc _
          exact absurd hc (by decide)
        · rw [e] at hc; exact rawmap_nocells h1.map _ _ _ hc
        · rw [← e] at hc; exact rawmap_nocells (h1.each x hx) _ _ _ hc
      · have := hn _ h2; have := h.ref.lt _ hm; omega
    · obtain ⟨p1, p2, p3⟩ := h.pins q hq
      refine ⟨fun hm => ?_, p2, k.at p3 p1⟩
      rcases hd _ hm with e | e
      · exact p1 e
      · have := lt_of_heap p3; omega
theorem rdue_both (h : Both w0 w lb mb qb most delay UA UB p) (t : Int) {m : List Pr} (hm : Due delay (lim t) UB m) (hA : UA = dueU delay (lim t) UB) {la : Option Addr} (hl : PrsAt w la m) (hlt : ∀ i ∈ fp la, i < w.heap.size) (hp : ∀ q ∈ pinOf w la, q ∈ p) :
    Calls Try.prog 17 #[.pointer (some ⟨qb, 0, none⟩), .int .i64 t] w fun e w' => ∃ pa pc, e = .returned (.slice pa m.length pc) ∧ PrsAt w' pa m ∧ PrsAt w' la m ∧ Both w0 w' lb mb qb most delay UA UA p := by
  obtain ⟨X, a, cap, Y, h, rfl⟩ := h
  have hf := h.rel.fine h.good
  refine (rdue_any h.ref (fun y hy r hr => ⟨(hf y hy r hr).1, (hf y hy r hr).2.1⟩) t).mono ?_
  rintro e w' ⟨pa, pc, rfl, hd⟩
  have hmm : m = Y.flatMap (rpairs delay (lim t)) := hm.uniq (rdue_is h.rel h.good)
  subst hmm
  have hdm : ∀ i, i ∈ rdom qb a (Y.map (rdueQ delay (lim t))) ↔ i ∈ rdom qb a Y := hd.dom
  have hb := h.refd (U' := absL X) ⟨a, cap, Y.map (rdueQ delay (lim t)), hd.rat, by rw [hA]; exact h.rel.due delay (lim t), hd.kept, fun i hi => .inl ((hdm i).1 hi)⟩ h.log.good
  refine ⟨pa, pc, rfl, hd.prs.seq encPrOk, list_pin hl (fun i hi => ?_), hb⟩
  obtain ⟨o, ho, hmo⟩ := pinOf_mem hi (hlt i hi)
  rw [ho]
  exact hb.pin (hp _ hmo)
end
end Go.Proofs.Ytdikijbkfhimoaa
