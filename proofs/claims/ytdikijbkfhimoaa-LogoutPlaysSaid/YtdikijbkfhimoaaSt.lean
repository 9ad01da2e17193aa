/- Equal lists; the record seen from the world at which a law began. -/
import Derived.Test.YtdikijbkfhimoaaDue
namespace Go.Proofs.Ytdikijbkfhimoaa
open Go.RowKit Go.Maps

theorem PrsAt.get {w : World} {a : Option Addr} {l : List Pr} (h : PrsAt w a l) {i : Nat} (hi : i < l.length) : ∃ b off, a = some ⟨b, off, none⟩ ∧ b < w.heap.size ∧ w.cell? ⟨b, off + i * 2, none⟩ = some (sV l[i].1) ∧ w.cell? ⟨b, off + i * 2 + 1, none⟩ = some (sV l[i].2) := by
  obtain ⟨b, off, e, hb, hc⟩ := h.at hi
  exact ⟨b, off, e, hb, by have := hc 0 _ rfl; rwa [Nat.add_zero] at this, hc 1 _ rfl⟩
set_option maxHeartbeats 1000000 in
theorem same_any {w : World} {a b : Option Addr} {cap cap2 : Nat} {l : List Pr} (h : PrsAt w a l) (h2 : PrsAt w b l) :
    Calls Try.prog 15 #[.slice a l.length cap, .slice b l.length cap2] w fun e w' => e = .returned (.bool true) ∧ DrewN w w' := by
  have hf := h.few
  unfold maxLen at hf
  go_enter Try.func15, Try.ntmps15
  go_wp2_with fail
  go_loopw [5] (fun i wr => ∃ k n : Nat, k ≤ l.length ∧ i = .int .i64 k ∧ wr = w.drewN n) (fun i _ => l.length - (intOf i).toNat)
  case atStart => exact ⟨0, 0, Nat.zero_le _, rfl, rfl⟩
  case round =>
    obtain ⟨k, n, hk, rfl, rfl⟩ := hrel
    by_cases hlt : k < l.length
    · obtain ⟨b1, off, rfl, hb, hc0, hc1⟩ := PrsAt.get h hlt
      obtain ⟨b2, off2, rfl, hb2, hd0, hd1⟩ := PrsAt.get h2 hlt
      unfold sV at hc0 hd0 hc1 hd1
      have hb1 : (0 : Int) ≤ k := by omega
      have hb2 : (k : Int) < l.length := by omega
      go_wp2_with fail
      go_quiet (fail)
      go_wp2_with fail
      go_roundw
      case rel => exact ⟨k + 1, _, by omega, by go_num, rfl⟩
      case measure => simp [intOf]; omega
    · go_wp2_with fail
      go_ret
      exact ⟨rfl, _, rfl⟩
set_option maxHeartbeats 1000000 in
theorem lists_any {w : World} {a b : Option Addr} {cap cap2 : Nat} {l : List Str} (h : StrsAt w a l) (h2 : StrsAt w b l) :
    Calls Try.prog 24 #[.slice a l.length cap, .slice b l.length cap2] w fun e w' => e = .returned (.bool true) ∧ DrewN w w' := by
  have hf := h.few
  unfold maxLen at hf
  go_enter Try.func24, Try.ntmps24
  go_wp2_with fail
  go_loopw [5] (fun i wr => ∃ k n : Nat, k ≤ l.length ∧ i = .int .i64 k ∧ wr = w.drewN n) (fun i _ => l.length - (intOf i).toNat)
  case atStart => exact ⟨0, 0, Nat.zero_le _, rfl, rfl⟩
  case round =>
    obtain ⟨k, n, hk, rfl, rfl⟩ := hrel
    by_cases hlt : k < l.length
    · obtain ⟨b1, off, rfl, hb, hc0⟩ := StrsAt.get h hlt
      obtain ⟨b2, off2, rfl, hb2, hd0⟩ := StrsAt.get h2 hlt
      unfold sV at hc0 hd0
      have hb1 : (0 : Int) ≤ k := by omega
      have hb2 : (k : Int) < l.length := by omega
      go_wp2_with fail
      go_quiet (fail)
      go_wp2_with fail
      go_roundw
      case rel => exact ⟨k + 1, _, by omega, by go_num, rfl⟩
      case measure => simp [intOf]; omega
    · go_wp2_with fail
      go_ret
      exact ⟨rfl, _, rfl⟩

/-! ### Due, plainly -/
theorem Due.uniq {delay : Nat} {now : Int} {U : Log} {l m : List Pr} (h1 : Due delay now U l) (h2 : Due delay now U m) : l = m := by
  have hn : ∀ {l : List Pr}, l.Pairwise pairLt → l.Pairwise (· ≠ ·) := fun h => h.imp (fun {x y} (hxy : pairLt x y) (e : x = y) => pairLt_irrefl y (by rw [e] at hxy; exact hxy))
  have hp : l.Perm m := (List.perm_ext_iff_of_nodup (List.nodup_iff_pairwise_ne.2 (hn h1.1)) (List.nodup_iff_pairwise_ne.2 (hn h2.1))).2 (fun p => by rw [h1.2, h2.2])
  exact hp.eq_of_pairwise (fun x y _ _ hx hy => absurd (pairLt_trans hx hy) (pairLt_irrefl _)) h1.1 h2.1
/-- The pairs that are due, in no order. -/
def dueL (delay : Nat) (now : Int) (U : Log) : List Pr := U.flatMap fun p => pairsS delay now p.1 p.2
theorem due_dec {most delay : Nat} {now : Int} {U : Log} (hg : Good most delay U) {m : List Pr} (h1 : m.Perm (dueL delay now U)) (h2 : m.Pairwise pairLt) : Due delay now U m := by
  refine ⟨h2, fun p => ?_⟩
  rw [h1.mem_iff]
  obtain ⟨s, c⟩ := p
  unfold dueL isDue
  rw [List.mem_flatMap]
  constructor
  · rintro ⟨p, hp, hm⟩
    obtain ⟨rfl, n, hm, hr⟩ := pairsS_mem.1 hm
    exact ⟨p.2, alook_of_mem hg.uniq (show (p.1, p.2) ∈ U from hp), n, alook_of_mem (hg.each p hp).uniq hm, hr⟩
  · rintro ⟨x, hx, n, hm, hr⟩
    exact ⟨(s, x), alook_some hx, pairsS_mem.2 ⟨rfl, n, alook_some hm, hr⟩⟩

/-! ### since a world -/
/-- The block of a slice, as it is. -/
def pinOf (w : World) : Option Addr → List (Nat × Obj)
  | none => []
  | some x => match w.heap[x.block]? with
    | none => []
    | some o => [(x.block, o)]
theorem pinOf_mem {w : World} {a : Option Addr} {i : Nat} (hi : i ∈ fp a) (hl : i < w.heap.size) : ∃ o, w.heap[i]? = some o ∧ (i, o) ∈ pinOf w a := by
  cases a with
  | none => simp [fp] at hi
  | some x =>
    simp only [fp, List.mem_singleton] at hi
    subst hi
    refine ⟨_, Array.getElem?_eq_getElem hl, ?_⟩
    unfold pinOf
    simp only [Array.getElem?_eq_getElem hl, List.mem_singleton]
theorem pinOf_sub {w : World} {a : Option Addr} {q : Nat × Obj} (h : q ∈ pinOf w a) : q.1 ∈ fp a ∧ w.heap[q.1]? = some q.2 := by
  cases a with
  | none => simp [pinOf] at h
  | some x =>
    unfold pinOf at h
    dsimp only at h
    cases ho : w.heap[x.block]? with
    | none => rw [ho] at h; simp at h
    | some o => rw [ho] at h; simp only [List.mem_singleton] at h; subst h; exact ⟨by simp [fp], ho⟩
/-- Since w0 nothing that lay there was written; the record lies in newer blocks; the blocks of p are as p says. -/
structure St (w0 w : World) (lb mb most delay : Nat) (U : Log) (p : List (Nat × Obj)) : Prop where
  st : ∃ X, LogAt w lb mb most delay X ∧ absL X = U ∧ Kept [] w0 w ∧ (∀ i ∈ ldom lb mb X, w0.heap.size ≤ i) ∧ ∀ q ∈ p, q.1 ∉ ldom lb mb X ∧ w.heap[q.1]? = some q.2
section
variable {w0 w w' : World} {lb mb most delay : Nat} {U : Log} {p : List (Nat × Obj)}
theorem St.kept (h : St w0 w lb mb most delay U p) : Kept [] w0 w := by obtain ⟨X, _, _, k, _⟩ := h.st; exact k
theorem St.good (h : St w0 w lb mb most delay U p) : Good most delay U := by obtain ⟨X, h1, rfl, _⟩ := h.st; exact h1.good
theorem St.keptN (h : St w0 w lb mb most delay U p) (k : Kept [] w w') : St w0 w' lb mb most delay U p := by
  obtain ⟨X, h1, e, k0, hd, hp⟩ := h.st
  exact ⟨X, h1.keptN k, e, k0.step k (by simp), hd, fun q hq => ⟨(hp q hq).1, k.at (hp q hq).2 (by simp)⟩⟩
theorem St.sub (h : St w0 w lb mb most delay U p) {p' : List (Nat × Obj)} (hp : ∀ q ∈ p', q ∈ p) : St w0 w lb mb most delay U p' := by
  obtain ⟨X, h1, e, k0, hd, hq⟩ := h.st
  exact ⟨X, h1, e, k0, hd, fun q h => hq q (hp q h)⟩
theorem St.left {X : SBs} {U' : Log} (k0 : Kept [] w0 w) (hd : ∀ i ∈ ldom lb mb X, w0.heap.size ≤ i) (hp : ∀ q ∈ p, q.1 ∉ ldom lb mb X ∧ w.heap[q.1]? = some q.2) (h : Left w w' lb mb most delay X U') : St w0 w' lb mb most delay U' p := by
  obtain ⟨X', h', e, k, hd'⟩ := h
  refine ⟨X', h', e, k0.trans k (fun i hi => .inr (hd i hi)), fun i hi => (hd' i hi).elim (hd i) (fun e => Nat.le_trans k0.size e), fun q hq => ?_⟩
  obtain ⟨h2, h3⟩ := hp q hq
  refine ⟨fun hm => ?_, k.at h3 h2⟩
  rcases hd' _ hm with e | e
  · exact h2 e
  · have := lt_of_heap h3; omega
/-- A slice's block is pinned down from now on. -/
theorem St.pin (h : St w0 w lb mb most delay U p) {a : Option Addr} (ha : ∀ i ∈ fp a, ∀ X, LogAt w lb mb most delay X → i ∉ ldom lb mb X) : St w0 w lb mb most delay U (pinOf w a ++ p) := by
  obtain ⟨X, h1, e, k0, hd, hp⟩ := h.st
  refine ⟨X, h1, e, k0, hd, fun q hq => ?_⟩
  rcases List.mem_append.1 hq with hq | hq
  · obtain ⟨h2, h3⟩ := pinOf_sub hq
    exact ⟨ha _ h2 X h1, h3⟩
  · exact hp q hq
theorem St.same (h : St w0 w' lb mb most delay U p) {a : Option Addr} (hs : ∀ q ∈ pinOf w a, q ∈ p) (hl : ∀ i ∈ fp a, i < w.heap.size) : ∀ i ∈ fp a, w'.heap[i]? = w.heap[i]? := by
  obtain ⟨X, h1, e, k0, hd, hp⟩ := h.st
  intro i hi
  obtain ⟨o, ho, hm⟩ := pinOf_mem hi (hl i hi)
  rw [ho]
  exact (hp _ (hs _ hm)).2
end
theorem list_pin {α : Type} {sz : Nat} {enc : α → List Value} {w w' : World} {a : Option Addr} {l : List α} (h : ListAt sz enc w a l) (hp : ∀ i ∈ fp a, w'.heap[i]? = w.heap[i]?) : ListAt sz enc w' a l := by
  refine ⟨?_, h.few⟩
  rcases h.cells with h0 | ⟨b, off, rfl, hb, hc⟩
  · exact .inl h0
  · have hbb := hp b (by simp [fp])
    refine .inr ⟨b, off, rfl, ?_, fun i hi j v hv => ?_⟩
    · rw [Array.getElem?_eq_getElem hb] at hbb
      exact lt_of_heap hbb
    · rw [World.cell?_of_block (w := w) hbb]
      exact hc i hi j v hv
/-! ### the calls -/
theorem new_st {w0 w : World} (k0 : Kept [] w0 w) {most delay : Nat} (h1 : 1 ≤ most) (h2 : most ≤ 8) (h3 : 1 ≤ delay) (h4 : delay ≤ 3600) :
    Calls Try.prog 11 #[.int .i64 (most : Int), .int .i64 (delay : Int)] w fun e w' => ∃ lb mb, e = .returned (.tuple #[.pointer (some ⟨lb, 0, none⟩), .int .i64 0]) ∧ St w0 w' lb mb most delay [] [] := by
  refine (new_log w h1 h2 h3 h4).mono ?_
  rintro e w' ⟨rfl, h, k, hz⟩
  exact ⟨_, _, rfl, [], h, rfl, k0.step k (by simp), fun i hi => by
    have := k0.size
    simp [ldom] at hi
    omega, by simp⟩
section
variable {w0 w : World} {lb mb most delay : Nat} {U : Log} {p : List (Nat × Obj)}
theorem begin_st (h : St w0 w lb mb most delay U p) (s : ByteArray) (hs : s.size ≤ maxLen) {a : Option Addr} {cap : Nat} {cl : List Str} (hcl : StrsAt w a cl) (hz : ∀ c ∈ cl, c.length ≤ 1000000) (hcap : cl.length ≤ cap) (now : Int) :
    Calls Try.prog 13 #[.pointer (some ⟨lb, 0, none⟩), .string s, .slice a cl.length cap, .int .i64 now] w fun e w' => e = .returned (.int .i64 (beginE U s.data.toList cl)) ∧ St w0 w' lb mb most delay (beginU U s.data.toList cl now) p := by
  obtain ⟨X, h1, rfl, k0, hd, hp⟩ := h.st
  exact (begin_any h1 s hs hcl hz hcap now).mono fun _ _ ⟨e, hL⟩ => ⟨e, St.left k0 hd hp hL⟩
theorem done_st (h : St w0 w lb mb most delay U p) (s c : ByteArray) (hs : s.size ≤ maxLen) (hc : c.size ≤ maxLen) (now : Int) :
    Calls Try.prog 18 #[.pointer (some ⟨lb, 0, none⟩), .string s, .string c, .int .i64 now] w fun e w' => e = .returned (.int .i64 (endE U s.data.toList c.data.toList)) ∧ St w0 w' lb mb most delay (endU doneN U s.data.toList c.data.toList) p := by
  obtain ⟨X, h1, rfl, k0, hd, hp⟩ := h.st
  exact (done_any h1 s c hs hc now).mono fun _ _ ⟨e, hL⟩ => ⟨e, St.left k0 hd hp hL⟩
theorem fail_st (h : St w0 w lb mb most delay U p) (s c : ByteArray) (hs : s.size ≤ maxLen) (hc : c.size ≤ maxLen) (now : Int) :
    Calls Try.prog 20 #[.pointer (some ⟨lb, 0, none⟩), .string s, .string c, .int .i64 now] w fun e w' => e = .returned (.int .i64 (endE U s.data.toList c.data.toList)) ∧ St w0 w' lb mb most delay (endU (failN most) U s.data.toList c.data.toList) p := by
  obtain ⟨X, h1, rfl, k0, hd, hp⟩ := h.st
  exact (fail_any h1 s c hs hc now).mono fun _ _ ⟨e, hL⟩ => ⟨e, St.left k0 hd hp hL⟩
theorem status_st (h : St w0 w lb mb most delay U p) (s : ByteArray) (hs : s.size ≤ maxLen) :
    Calls Try.prog 22 #[.pointer (some ⟨lb, 0, none⟩), .string s] w fun e w' => e = .returned (.tuple #[.int .i64 ((statS U s.data.toList).1 : Nat), .int .i64 ((statS U s.data.toList).2.1 : Nat), .int .i64 ((statS U s.data.toList).2.2 : Nat)]) ∧ St w0 w' lb mb most delay U p := by
  have hh := h
  obtain ⟨X, h1, rfl, k0, hd, hp⟩ := h.st
  exact (status_any h1 s hs).mono fun _ _ ⟨e, k⟩ => ⟨e, hh.keptN k⟩
theorem bound_st (h : St w0 w lb mb most delay U p) :
    Calls Try.prog 27 #[.pointer (some ⟨lb, 0, none⟩)] w fun e w' => e = .returned (.int .i64 (afterN delay (most - 1) : Nat)) ∧ St w0 w' lb mb most delay U p := by
  have hh := h
  obtain ⟨X, h1, rfl, k0, hd, hp⟩ := h.st
  exact (bound_any h1).mono fun _ _ ⟨e, k⟩ => ⟨e, hh.keptN k.kept⟩
theorem given_st (h : St w0 w lb mb most delay U p) (s : ByteArray) (hs : s.size ≤ maxLen) :
    Calls Try.prog 25 #[.pointer (some ⟨lb, 0, none⟩), .string s] w fun e w' => ∃ a cap, e = .returned (.slice a (givenL U s.data.toList).length cap) ∧ StrsAt w' a (givenL U s.data.toList) ∧ (∀ i ∈ fp a, w.heap.size ≤ i ∧ i < w'.heap.size) ∧ Kept [] w w' ∧ St w0 w' lb mb most delay U (pinOf w' a ++ p) := by
  have hh := h
  obtain ⟨X, h1, rfl, k0, hd, hp⟩ := h.st
  refine (given_any h1 s hs).mono ?_
  rintro e w' ⟨a, cap, rfl, o⟩
  have hlt : ∀ i ∈ fp a, w.heap.size ≤ i ∧ i < w'.heap.size := fun i hi => ⟨o.new i hi, o.lt i hi⟩
  refine ⟨a, cap, rfl, o.seq encSOk, hlt, o.kept, X, h1.keptN o.kept, rfl, k0.step o.kept (by simp), hd, fun q hq => ?_⟩
  rcases List.mem_append.1 hq with hq | hq
  · obtain ⟨h2, h3⟩ := pinOf_sub hq
    exact ⟨fun hm => by have := h1.lt _ hm; have := (hlt _ h2).1; omega, h3⟩
  · exact ⟨(hp q hq).1, o.kept.at (hp q hq).2 (by simp)⟩
theorem due_st (h : St w0 w lb mb most delay U p) (t : Int) :
    Calls Try.prog 16 #[.pointer (some ⟨lb, 0, none⟩), .int .i64 t] w fun e w' => ∃ m a cap, Due delay (lim t) U m ∧ e = .returned (.slice a m.length cap) ∧ PrsAt w' a m ∧ (∀ i ∈ fp a, w.heap.size ≤ i ∧ i < w'.heap.size) ∧ St w0 w' lb mb most delay (dueU delay (lim t) U) (pinOf w' a ++ p) := by
  obtain ⟨X, h1, rfl, k0, hd, hp⟩ := h.st
  refine (due_any h1 t).mono ?_
  rintro e w' ⟨m, a, cap, rfl, o, hn, hdu, hL⟩
  have hlt : ∀ i ∈ fp a, w.heap.size ≤ i ∧ i < w'.heap.size := fun i hi => ⟨hn i hi, o.lt i hi⟩
  obtain ⟨X', h', e', k, hd'⟩ := hL
  refine ⟨m, a, cap, hdu, rfl, o.seq encPrOk, hlt, X', h', e', k0.trans k (fun i hi => .inr (hd i hi)), fun i hi => (hd' i hi).elim (hd i) (fun e => Nat.le_trans k0.size e), fun q hq => ?_⟩
  rcases List.mem_append.1 hq with hq | hq
  · obtain ⟨h2, h3⟩ := pinOf_sub hq
    refine ⟨fun hm => ?_, h3⟩
    obtain ⟨cur, hc⟩ := row_blk o.row _ h2
    rcases ldom_mem.1 hm with e | e | ⟨x, hx, e⟩
    · rw [e, h'.blk] at hc
      injection hc with hc
      injection hc with _ hc _
      exact absurd hc (by show (57 : Nat) ≠ 48; decide)
    · rw [e] at hc; exact rawmap_nocells h'.map _ _ _ hc
    · rw [← e] at hc; exact rawmap_nocells (h'.each x hx) _ _ _ hc
  · obtain ⟨h2, h3⟩ := hp q hq
    refine ⟨fun hm => ?_, k.at h3 h2⟩
    rcases hd' _ hm with e | e
    · exact h2 e
    · have := lt_of_heap h3; omega
end
end Go.Proofs.Ytdikijbkfhimoaa
