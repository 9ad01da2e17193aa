/- Words of Due: what lies in memory while it ranges over the sessions. -/
import Derived.Test.YtdikijbkfhimoaaDue1
import Derived.Test.YtdikijbkfhimoaaStore
namespace Go.Proofs.Ytdikijbkfhimoaa
open Go.RowKit Go.Maps

/-! ### plain -/
def pairsS (delay : Nat) (now : Int) (k : Str) (x : Ses) : List Pr := (x.2.filter fun q => ripe delay x.1 now q.2).map fun q => (k, q.1)
def pairsX (delay : Nat) (now : Int) (X : SBs) : List Pr := X.flatMap fun p => pairsS delay now p.1 p.2.2
theorem pairsS_len (delay : Nat) (now : Int) (k : Str) (x : Ses) : (pairsS delay now k x).length ≤ x.2.length := by
  unfold pairsS; rw [List.length_map]; exact List.length_filter_le _ _
theorem pairsX_len {delay : Nat} {now : Int} : ∀ {X : SBs}, (∀ p ∈ X, p.2.2.2.length ≤ 256) → (pairsX delay now X).length ≤ X.length * 256
  | [], _ => by simp [pairsX]
  | p :: X, h => by
    have ih := pairsX_len (delay := delay) (now := now) (X := X) (fun q hq => h q (List.mem_cons_of_mem _ hq))
    have h1 := pairsS_len delay now p.1 p.2.2
    have h2 := h p (List.mem_cons_self ..)
    unfold pairsX at ih ⊢
    rw [List.flatMap_cons, List.length_append, List.length_cons]
    omega
theorem pairsX_perm {delay : Nat} {now : Int} {X Y : SBs} (h : X.Perm Y) : (pairsX delay now X).Perm (pairsX delay now Y) := h.flatMap_right _
/-- The notifications of a session while those of T are still to come. -/
def mixN (delay : Nat) (at_ now : Int) (T N : Notes) : Notes := N.map fun q => (q.1, if (alook T q.1).isSome = true then q.2 else dueN delay at_ now q.2)
theorem mem_eq {V : Type} {N : List (Str × V)} (hu : AUniq N) {k : Str} {n : V} {q : Str × V} (hm : (k, n) ∈ N) (hq : q ∈ N) (e : q.1 = k) : q.2 = n := by
  have h1 := alook_of_mem hu (show (q.1, q.2) ∈ N from hq)
  have h2 := alook_of_mem hu hm
  rw [e, h2] at h1
  injection h1 with h1
  exact h1.symm
theorem mixN_start (delay : Nat) (at_ now : Int) {N : Notes} (hu : AUniq N) : mixN delay at_ now N N = N := by
  unfold mixN
  refine (List.map_congr_left (g := id) (fun q hq => ?_)).trans (List.map_id _)
  have := alook_of_mem hu (show (q.1, q.2) ∈ N from hq)
  rw [this]
  rfl
theorem mixN_end (delay : Nat) (at_ now : Int) (N : Notes) : mixN delay at_ now [] N = (dueS delay now (at_, N)).2 := by
  unfold mixN dueS
  apply List.map_congr_left
  intro q _
  simp [alook]
theorem mixN_len (delay : Nat) (at_ now : Int) (T N : Notes) : (mixN delay at_ now T N).length = N.length := List.length_map _
theorem look_del_ne {V : Type} {T : List (Str × V)} {k j : Str} (h : k ≠ j) : alook (adel T k) j = alook T j := by rw [alook_del, if_neg h]
theorem mixN_step {delay : Nat} {at_ now : Int} {T N : Notes} (hu : AUniq N) (hT : ∀ p ∈ T, p ∈ N) {k : Str} {n : Note} (hm : (k, n) ∈ T) : mixN delay at_ now (adel T k) N = aput (mixN delay at_ now T N) k (dueN delay at_ now n) := by
  have hk : (alook (mixN delay at_ now T N) k).isSome = true := by
    unfold mixN
    rw [Option.isSome_iff_exists]
    refine ⟨_, alook_of_mem ?_ (List.mem_map.2 ⟨(k, n), hT _ hm, rfl⟩)⟩
    unfold AUniq at hu ⊢
    rw [List.pairwise_map]
    exact hu
  unfold aput
  rw [if_pos hk]
  unfold mixN
  rw [List.map_map]
  apply List.map_congr_left
  intro q hq
  show _ = if q.1 = k then (k, dueN delay at_ now n) else _
  by_cases e : q.1 = k
  · rw [if_pos e]
    have h1 := mem_eq hu (hT _ hm) hq e
    rw [alook_del, if_pos e.symm, h1, e]
    rfl
  · rw [if_neg e, look_del_ne (fun e2 => e e2.symm)]
theorem mixN_same {delay : Nat} {at_ now : Int} {T N : Notes} (hu : AUniq N) (hut : AUniq T) (hT : ∀ p ∈ T, p ∈ N) {k : Str} {n : Note} (hm : (k, n) ∈ T) (he : dueN delay at_ now n = n) : mixN delay at_ now (adel T k) N = mixN delay at_ now T N := by
  unfold mixN
  apply List.map_congr_left
  intro q hq
  by_cases e : q.1 = k
  · have h1 := mem_eq hu (hT _ hm) hq e
    rw [alook_del, if_pos e.symm, e, alook_of_mem hut hm, h1, he]
    rfl
  · rw [look_del_ne (fun e2 => e e2.symm)]
theorem aput_keep {V : Type} {N : List (Str × V)} {k : Str} {v : V} {p : Str × V} (hp : p ∈ N) (hne : p.1 ≠ k) : p ∈ aput N k v := by
  unfold aput
  split
  · exact List.mem_map.2 ⟨p, hp, by rw [if_neg hne]⟩
  · exact List.mem_append_left _ hp
/-- The notifications of a session of X while the sessions of T are still to come. -/
def stN (delay : Nat) (now : Int) (T : SBs) (p : Str × SB) : Notes := if (alook T p.1).isSome = true then p.2.2.2 else (dueS delay now p.2.2).2

/-! ### in memory -/
theorem RRange.iter {P : Program} {ks : TypeId} {w : World} {mb r cnt : Nat} {L T : List REnt} (h : RRange P ks w mb r L T cnt) : ∀ cs t fz, w.heap[r]? ≠ some (.cells cs t fz) := by
  obtain ⟨n, D, left, ⟨es, clock, since, seen, c0, _, _, _, _, hr, _⟩, _⟩ := h.run
  intro cs t fz e
  rw [hr] at e
  cases e
theorem RRange.nomap {P : Program} {ks : TypeId} {w : World} {mb r cnt b : Nat} {L T M : List REnt} (h : RRange P ks w mb r L T cnt) (hm : RawMap P ks w b M) : b ≠ r := by
  obtain ⟨n, D, left, ⟨es, clock, since, seen, c0, _, _, _, _, hr, _⟩, _⟩ := h.run
  obtain ⟨es2, c2, hb⟩ := hm.blk
  intro e
  rw [e, hr] at hb
  cases hb
theorem rawmap_nocells {P : Program} {ks : TypeId} {w : World} {b : Nat} {M : List REnt} (hm : RawMap P ks w b M) : ∀ cs t fz, w.heap[b]? ≠ some (.cells cs t fz) := by
  obtain ⟨es2, c2, hb⟩ := hm.blk
  intro cs t fz e
  rw [hb] at e
  cases e
/-- The world without its memory. -/
def bare (w : World) : World := { w with heap := #[] }
theorem bare_kept {S : List Nat} {w w' : World} (k : Kept S w w') : Kept [] (bare w) w' := ⟨k.os, k.tape, k.output, Nat.zero_le _, fun i hi _ => by simp [bare] at hi⟩
abbrev Fix := Nat × Array Value × TypeId
/-- While Due ranges over the sessions X of the map mb (its range's state in block R; those of T are to come): D has been collected. -/
structure DSt (w wq : World) (mb delay : Nat) (now : Int) (X : SBs) (ex : Option Str) (T : SBs) (R cnt : Nat) (F : List Fix) (D : List Pr) (a : Option Addr) (cap : Nat) : Prop where
  rng : RRange Try.prog 9 wq mb R (X.map sent) (T.map sent) cnt
  sub : ∀ p ∈ T, p ∈ X
  each : ∀ p ∈ X, ex ≠ some p.1 → MapS wq p.2.1 ((stN delay now T p).map nent)
  row : OwnPr (bare w) wq a cap D
  new : ∀ i ∈ fp a, w.heap.size ≤ i
  fix : ∀ q ∈ F, wq.heap[q.1]? = some (.cells q.2.1 q.2.2 (0, 0)) ∧ q.2.2 ≠ 48
  kept : Kept (X.map fun p => p.2.1) w wq
  rR : w.heap.size ≤ R
section
variable {w wq w2 : World} {mb delay : Nat} {now : Int} {X : SBs} {ex : Option Str} {T : SBs} {R cnt : Nat} {F : List Fix} {D : List Pr} {a : Option Addr} {cap : Nat}
theorem DSt.keptN (h : DSt w wq mb delay now X ex T R cnt F D a cap) (k : Kept [] wq w2) : DSt w w2 mb delay now X ex T R cnt F D a cap :=
  ⟨h.rng.kept k (by simp) (by simp), h.sub, fun p hp he => (h.each p hp he).kept k (by simp), h.row.later k, h.new, fun q hq => ⟨k.at (h.fix q hq).1 (by simp), (h.fix q hq).2⟩, h.kept.step k (by simp), h.rR⟩
/-- A block that is no row of cells has been written: none of these. -/
theorem DSt.one (h : DSt w wq mb delay now X ex T R cnt F D a cap) {b : Nat} (k : Kept [b] wq w2) (hnc : ∀ cs t fz, wq.heap[b]? ≠ some (.cells cs t fz)) (hbm : mb ≠ b) (hbR : R ≠ b) (h6 : ∀ p ∈ X, ex ≠ some p.1 → p.2.1 ≠ b) (h0 : w.heap.size ≤ b ∨ b ∈ X.map fun p => p.2.1) : DSt w w2 mb delay now X ex T R cnt F D a cap := by
  have hfp : ∀ i ∈ fp a, i ∉ [b] := fun i hi hm => by
    simp at hm; subst hm
    obtain ⟨cur, hc⟩ := row_blk h.row.row i hi
    exact hnc _ _ _ hc
  refine ⟨h.rng.kept k (by simpa using hbm) (by simpa using hbR), h.sub, fun p hp he => (h.each p hp he).kept k (by simpa using h6 p hp he), ⟨row_kept h.row.row k hfp, ?_, h.row.new⟩, h.new, fun q hq => ⟨k.at (h.fix q hq).1 ?_, (h.fix q hq).2⟩, h.kept.trans k (fun i hi => ?_), h.rR⟩
  · exact bare_kept (h.kept.trans k (S := X.map fun p => p.2.1) (fun i hi => by simp only [List.mem_singleton] at hi; subst hi; exact h0.symm))
  · intro hm
    simp at hm
    exact hnc _ _ _ (by rw [← hm]; exact (h.fix q hq).1)
  · simp only [List.mem_singleton] at hi; subst hi; exact h0.symm
/-- The next session comes out. -/
theorem DSt.outer (h : DSt w wq mb delay now X none T R cnt F D a cap) {key : Str} {cnt' : Nat} (k : Kept [R] wq w2) (hr : RRange Try.prog 9 w2 mb R (X.map sent) ((adel T key).map sent) cnt') : DSt w w2 mb delay now X (some key) (adel T key) R cnt' F D a cap := by
  have hnc := h.rng.iter
  have hfp : ∀ i ∈ fp a, i ∉ [R] := fun i hi hm => by
    simp at hm; subst hm
    obtain ⟨cur, hc⟩ := row_blk h.row.row i hi
    exact hnc _ _ _ hc
  refine ⟨hr, fun p hp => h.sub p (adel_mem.1 hp).1, fun p hp he => ?_, ⟨row_kept h.row.row k hfp, ?_, h.row.new⟩, h.new, fun q hq => ⟨k.at (h.fix q hq).1 ?_, (h.fix q hq).2⟩, h.kept.trans k (fun i hi => ?_), h.rR⟩
  · have hm := h.each p hp (by simp)
    have hs : stN delay now (adel T key) p = stN delay now T p := by
      unfold stN
      rw [look_del_ne (fun e => he (by rw [e]))]
    rw [hs]
    exact hm.kept k (by simpa using h.rng.nomap hm)
  · exact bare_kept (h.kept.trans k (S := X.map fun p => p.2.1) (fun i hi => by simp only [List.mem_singleton] at hi; subst hi; exact .inr h.rR))
  · intro hm
    simp at hm
    exact hnc _ _ _ (by rw [← hm]; exact (h.fix q hq).1)
  · simp only [List.mem_singleton] at hi; subst hi; exact .inr h.rR
/-- The session at hand is done. -/
theorem DSt.close {key : Str} (h : DSt w wq mb delay now X (some key) T R cnt F D a cap) {x : SB} (hu : AUniq X) (hx : (key, x) ∈ X) (hT : alook T key = none) (hm : MapS wq x.1 ((dueS delay now x.2).2.map nent)) : DSt w wq mb delay now X none T R cnt F D a cap := by
  refine ⟨h.rng, h.sub, fun p hp _ => ?_, h.row, h.new, h.fix, h.kept, h.rR⟩
  by_cases e : p.1 = key
  · have h1 := mem_eq hu hx hp e
    unfold stN
    rw [e, hT, h1]
    exact hm
  · exact h.each p hp (by simpa using fun e2 => e e2.symm)
theorem DSt.more (h : DSt w wq mb delay now X ex T R cnt F D a cap) {q : Fix} (hq : wq.heap[q.1]? = some (.cells q.2.1 q.2.2 (0, 0))) (ht : q.2.2 ≠ 48) : DSt w wq mb delay now X ex T R cnt (q :: F) D a cap :=
  ⟨h.rng, h.sub, h.each, h.row, h.new, fun p hp => by
    rcases List.mem_cons.1 hp with rfl | hp
    · exact ⟨hq, ht⟩
    · exact h.fix p hp, h.kept, h.rR⟩
theorem DSt.less {q : Fix} (h : DSt w wq mb delay now X ex T R cnt (q :: F) D a cap) : DSt w wq mb delay now X ex T R cnt F D a cap :=
  ⟨h.rng, h.sub, h.each, h.row, h.new, fun p hp => h.fix p (List.mem_cons_of_mem _ hp), h.kept, h.rR⟩
/-- The row of pairs has been written, or laid anew. -/
theorem DSt.app (h : DSt w wq mb delay now X ex T R cnt F D a cap) {a2 : Option Addr} {cap2 : Nat} {D2 : List Pr} (ho : OwnPr (bare w) w2 a2 cap2 D2) (k : Kept (fp a) wq w2) (hf : ∀ i ∈ fp a2, i ∈ fp a ∨ wq.heap.size ≤ i) : DSt w w2 mb delay now X ex T R cnt F D2 a2 cap2 := by
  have hc := fun i hi => row_blk h.row.row i hi
  refine ⟨h.rng.kept k (fun hi => ?_) (fun hi => ?_), h.sub, fun p hp he => (h.each p hp he).kept k (fun hi => ?_), ho, fun i hi => ?_, fun q hq => ⟨k.at (h.fix q hq).1 (fun hi => ?_), (h.fix q hq).2⟩, h.kept.trans k (fun i hi => .inr (h.new i hi)), h.rR⟩
  · obtain ⟨cur, hb⟩ := hc _ hi; exact rawmap_nocells h.rng.raw _ _ _ hb
  · obtain ⟨cur, hb⟩ := hc _ hi; exact h.rng.iter _ _ _ hb
  · obtain ⟨cur, hb⟩ := hc _ hi; exact rawmap_nocells (h.each p hp he) _ _ _ hb
  · rcases hf i hi with e | e
    · exact h.new i e
    · exact Nat.le_trans h.kept.size e
  · obtain ⟨cur, hb⟩ := hc _ hi
    rw [(h.fix q hq).1] at hb
    injection hb with hb
    injection hb with _ hb _
    exact (h.fix q hq).2 hb
end
theorem DSt.rowmap {w wq : World} {mb delay : Nat} {now : Int} {X : SBs} {ex : Option Str} {T : SBs} {R cnt : Nat} {F : List Fix} {D : List Pr} {a : Option Addr} {cap : Nat} (h : DSt w wq mb delay now X ex T R cnt F D a cap) {b : Nat} (hb : ∀ cs t fz, wq.heap[b]? ≠ some (.cells cs t fz)) : b ∉ fp a := fun hi => by
  obtain ⟨cur, hc⟩ := row_blk h.row.row b hi
  exact hb _ _ _ hc
theorem pairsS_del {delay : Nat} {now at_ : Int} {T : Notes} (hu : AUniq T) {k c : Str} {n : Note} (hm : (c, n) ∈ T) : (pairsS delay now k (at_, T)).Perm ((if ripe delay at_ now n = true then [(k, c)] else []) ++ pairsS delay now k (at_, adel T c)) := by
  unfold pairsS
  refine (((perm_del hu hm).filter _).map _).trans ?_
  rw [List.filter_cons]
  split <;> exact List.Perm.refl _
theorem pairsX_cons (delay : Nat) (now : Int) (k : Str) (x : SB) (X : SBs) : pairsX delay now ((k, x) :: X) = pairsS delay now k x.2 ++ pairsX delay now X := rfl
theorem dueN_yes {delay : Nat} {at_ now : Int} {n : Note} (h : ripe delay at_ now n = true) : dueN delay at_ now n = (1, n.2) := by unfold dueN; rw [if_pos h]
theorem dueN_no {delay : Nat} {at_ now : Int} {n : Note} (h : ripe delay at_ now n = false) : dueN delay at_ now n = n := by unfold dueN; rw [h]; rfl
theorem NRange.store {w : World} {mb r cnt : Nat} {N T : Notes} (h : NRange w mb r N T cnt) (hl : N.length ≤ 256) (c : Str) (hc : c.length ≤ maxLen) (n : Note) (hin : (alook N c).isSome = true) (hT : ∀ p ∈ T, p.1 ≠ c) :
    ∃ w', (Instr.mapUpdate 67 (.map (some mb)) (.string ⟨c.toArray⟩) (.agg #[.int .i64 n.1, .int .i64 (n.2 : Int)])).run Try.prog w = .ok () w' ∧ NRange w' mb r (aput N c n) T cnt ∧ Kept [mb] w w' ∧ w'.heap.size = w.heap.size := by
  obtain ⟨w', h1, h2, h3, h4⟩ := h.run.store lawS Try.underlying9 Try.underlying67 (by rw [List.length_map]; unfold maxLen; omega) ⟨c.toArray⟩ (by simpa [ByteArray.size] using hc) (noteV n) (by rw [sized, rlook_nent]; simpa using hin) (fun p hp => by
    obtain ⟨q, hq, rfl⟩ := List.mem_map.1 hp
    exact hT q hq)
  rw [sized, rput_nent] at h2
  exact ⟨w', h1, ⟨h2, fun p hp => aput_keep (h.sub p hp) (hT p hp)⟩, h3, h4⟩
theorem rrange_tuniq {P : Program} {ks : TypeId} {w : World} {mb r cnt : Nat} {L T : List REnt} (h : RRange P ks w mb r L T cnt) : RUniq T := by
  obtain ⟨n, D, left, _, hs, hT⟩ := h.run
  rw [hT]
  exact hs.uniq.filter _
theorem suniq_of {X : SBs} (h : RUniq (X.map sent)) : AUniq X := by
  unfold RUniq at h
  rw [List.pairwise_map] at h
  exact h
theorem sent_filter (T : SBs) (k : Str) : (T.map sent).filter (fun p => !(p.1 == k)) = (adel T k).map sent := by
  unfold adel
  rw [List.filter_map]
  rfl
section
variable {w : World} {ops : Array Oper} {rest : List Oper} {o : Oper} {a : Act} {Q : Exit → Act → World → Prop}
theorem wp_snext {mb r cnt : Nat} {X T : SBs} (h : RRange Try.prog 9 w mb r (X.map sent) (T.map sent) cnt) (hg : o.guard = none) (it : Operand) (hop : o.op = Op.next it false) (hit : a.eval it = .pointer (some ⟨r, 0, none⟩))
    (hDone : T = [] → wpList Try.prog ops Q rest (a.put o.dst (.tuple #[.bool false])) w)
    (hMore : ∀ (k : Str) (b : Nat) (t : Int) (N : Notes) (w' : World) (cnt' : Nat), k.length ≤ maxLen → (k, b, t, N) ∈ T → RRange Try.prog 9 w' mb r (X.map sent) ((adel T k).map sent) cnt' → cnt' < cnt → Kept [r] w w' → w'.heap.size = w.heap.size →
      (Instr.entry (.pointer (some ⟨r, 0, none⟩))).run Try.prog w' = .ok (.tuple #[.string ⟨k.toArray⟩, .agg #[.int .i64 t, .map (some b)]]) w' → wpList Try.prog ops Q rest (a.put o.dst (.tuple #[.bool true, .string ⟨k.toArray⟩, .agg #[.int .i64 t, .map (some b)]])) w') :
    wpList Try.prog ops Q (o :: rest) a w := by
  refine wp_next h hg it hop lawS Try.underlying9 hit (fun e => hDone (List.map_eq_nil_iff.1 e)) (fun x v w' cnt' hwx hm hr hlt hkp hsz hen => ?_)
  obtain ⟨⟨k, b, t, N⟩, hp, e⟩ := List.mem_map.1 hm
  have e1 : k = x.data.toList := congrArg Prod.fst e
  have e2 : sesV (b, t, N) = v := congrArg Prod.snd e
  have ex : x = ⟨k.toArray⟩ := by rw [e1]
  subst e2
  subst ex
  rw [sent_filter] at hr
  exact hMore k b t N w' cnt' (by simpa [ByteArray.size] using hwx) hp (by simpa using hr) hlt hkp hsz hen
end
end Go.Proofs.Ytdikijbkfhimoaa
