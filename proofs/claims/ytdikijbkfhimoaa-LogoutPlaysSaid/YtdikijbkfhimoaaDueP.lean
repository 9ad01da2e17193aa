/- What Due leaves, plain. -/
import Derived.Test.YtdikijbkfhimoaaDueW
namespace Go.Proofs.Ytdikijbkfhimoaa
open Go.RowKit Go.Maps

theorem pairsS_mem {delay : Nat} {now : Int} {k : Str} {x : Ses} {s c : Str} : (s, c) ∈ pairsS delay now k x ↔ s = k ∧ ∃ n, (c, n) ∈ x.2 ∧ ripe delay x.1 now n = true := by
  unfold pairsS
  rw [List.mem_map]
  constructor
  · rintro ⟨q, hq, e⟩
    obtain ⟨h1, h2⟩ := List.mem_filter.1 hq
    injection e with e1 e2
    exact ⟨e1.symm, q.2, by rw [← e2]; exact h1, h2⟩
  · rintro ⟨rfl, n, hn, hr⟩
    exact ⟨(c, n), List.mem_filter.2 ⟨hn, hr⟩, rfl⟩
theorem pairsX_mem {delay : Nat} {now : Int} {X : SBs} (hu : AUniq X) (hn : ∀ p ∈ X, AUniq p.2.2.2) {s c : Str} : (s, c) ∈ pairsX delay now X ↔ isDue delay now (absL X) s c := by
  unfold pairsX isDue
  rw [List.mem_flatMap]
  constructor
  · rintro ⟨p, hp, hm⟩
    obtain ⟨rfl, n, hm, hr⟩ := pairsS_mem.1 hm
    refine ⟨p.2.2, ?_, n, alook_of_mem (hn p hp) hm, hr⟩
    rw [absL_look, alook_of_mem hu (show (p.1, p.2) ∈ X from hp)]
    rfl
  · rintro ⟨x, hx, n, hm, hr⟩
    rw [absL_look, Option.map_eq_some_iff] at hx
    obtain ⟨y, hy, rfl⟩ := hx
    exact ⟨(s, y), alook_some hy, pairsS_mem.2 ⟨rfl, n, alook_some hm, hr⟩⟩
theorem pairsX_nodup {delay : Nat} {now : Int} {X : SBs} (hu : AUniq X) (hn : ∀ p ∈ X, AUniq p.2.2.2) : (pairsX delay now X).Pairwise (· ≠ ·) := by
  unfold pairsX
  rw [List.pairwise_flatMap]
  refine ⟨fun p hp => ?_, hu.imp_of_mem fun {p q} _ _ hne x hx y hy e => ?_⟩
  · unfold pairsS
    rw [List.pairwise_map]
    refine ((hn p hp).filter _).imp (fun {a b} hab e => hab (by injection e))
  · obtain ⟨x1, x2⟩ := x
    obtain ⟨y1, y2⟩ := y
    have h1 := (pairsS_mem.1 hx).1
    have h2 := (pairsS_mem.1 hy).1
    injection e with e1 _
    exact hne (by rw [← h1, ← h2, e1])
theorem due_of {delay : Nat} {now : Int} {X : SBs} (hu : AUniq X) (hn : ∀ p ∈ X, AUniq p.2.2.2) {D m : List Pr} (h1 : D.Perm (pairsX delay now X)) (h2 : m.Perm D) (h3 : m.Pairwise fun x y => ¬ pairLt y x) : Due delay now (absL X) m := by
  have hp := h2.trans h1
  have hnd : m.Pairwise (· ≠ ·) := (hp.pairwise_iff (fun {_ _} hne => Ne.symm hne)).2 (pairsX_nodup hu hn)
  refine ⟨(h3.and hnd).imp (fun {x y} hxy => ?_), fun p => ?_⟩
  · rcases pairLt_tri x y with h | h | h
    · exact h
    · exact absurd h hxy.2
    · exact absurd h hxy.1
  · rw [hp.mem_iff]
    exact pairsX_mem hu hn
/-- The sessions, those that are ripe being out. -/
def dueX (delay : Nat) (now : Int) (X : SBs) : SBs := X.map fun p => (p.1, (p.2.1, dueS delay now p.2.2))
theorem dueX_abs (delay : Nat) (now : Int) (X : SBs) : absL (dueX delay now X) = dueU delay now (absL X) := by
  unfold absL dueX dueU
  rw [List.map_map, List.map_map]
  rfl
theorem dueX_sent (delay : Nat) (now : Int) (X : SBs) : (dueX delay now X).map sent = X.map sent := by
  unfold dueX
  rw [List.map_map]
  rfl
theorem Fine.due {most delay : Nat} {at_ now : Int} {n : Note} (h : Fine most n) : Fine most (dueN delay at_ now n) := by
  cases hr : ripe delay at_ now n with
  | false => rw [dueN_no hr]; exact h
  | true =>
    rw [dueN_yes hr]
    have h0 : n.1 = 0 := by unfold ripe at hr; simp at hr; exact hr.1
    exact ⟨.inr (.inl rfl), h.le, fun _ => h.open_ (.inl h0), fun e => by simp at e⟩
theorem FineS.due {most delay : Nat} {now : Int} {x : Ses} (h : FineS most x) : FineS most (dueS delay now x) := by
  have hmem : ∀ p ∈ (dueS delay now x).2, ∃ q ∈ x.2, p = (q.1, dueN delay x.1 now q.2) := fun p hp => by
    obtain ⟨q, hq, e⟩ := List.mem_map.1 hp
    exact ⟨q, hq, e.symm⟩
  refine ⟨h.at_, auniq_map.2 h.uniq, ?_, fun p hp => ?_, fun p hp => ?_⟩
  · show ((x.2.map _).length ≤ 256)
    rw [List.length_map]; exact h.len
  · obtain ⟨q, hq, rfl⟩ := hmem p hp
    exact (h.note q hq).due
  · obtain ⟨q, hq, rfl⟩ := hmem p hp
    exact h.word q hq
theorem Good.due {most delay : Nat} {now : Int} {U : Log} (h : Good most delay U) : Good most delay (dueU delay now U) := by
  have hmem : ∀ p ∈ dueU delay now U, ∃ q ∈ U, p = (q.1, dueS delay now q.2) := fun p hp => by
    obtain ⟨q, hq, e⟩ := List.mem_map.1 hp
    exact ⟨q, hq, e.symm⟩
  refine ⟨h.rm, h.rd, auniq_map.2 h.uniq, ?_, fun p hp => ?_, fun p hp => ?_⟩
  · unfold dueU; rw [List.length_map]; exact h.len
  · obtain ⟨q, hq, rfl⟩ := hmem p hp
    exact (h.each q hq).due
  · obtain ⟨q, hq, rfl⟩ := hmem p hp
    exact h.word q hq
/-- All sessions have been ranged over, and the row of pairs has been put in order. -/
theorem LogAt.due {w wr w2 : World} {lb mb most delay : Nat} {X : SBs} (h : LogAt w lb mb most delay X) {now : Int} {R cnt : Nat} {F : List Fix} {D : List Pr} {a : Option Addr} {cap : Nat} (hd : DSt w wr mb delay now X none [] R cnt ((lb, #[.int .i64 (most : Int), .int .i64 (delay : Int), .map (some mb)], 57) :: F) D a cap) (k : Kept (fp a) wr w2) : Left w w2 lb mb most delay X (dueU delay now (absL X)) := by
  have hmem : ∀ p ∈ dueX delay now X, ∃ q ∈ X, p = (q.1, (q.2.1, dueS delay now q.2.2)) := fun p hp => by
    obtain ⟨q, hq, e⟩ := List.mem_map.1 hp
    exact ⟨q, hq, e.symm⟩
  have hb := hd.fix (lb, #[.int .i64 (most : Int), .int .i64 (delay : Int), .map (some mb)], 57) (by simp)
  have hnb : lb ∉ fp a := fun hi => by
    obtain ⟨cur, hc⟩ := row_blk hd.row.row lb hi
    rw [hb.1] at hc
    injection hc with hc
    injection hc with _ hc _
    exact hb.2 hc
  have hst : ∀ q ∈ X, MapS wr q.2.1 ((dueS delay now q.2.2).2.map nent) := fun q hq => by
    have := hd.each q hq (by simp)
    have hs : stN delay now [] q = (dueS delay now q.2.2).2 := by unfold stN; simp [alook]
    rw [hs] at this
    exact this
  have hM : MapS w2 mb ((dueX delay now X).map sent) := by
    rw [dueX_sent]
    exact hd.rng.raw.kept k (hd.rowmap (rawmap_nocells hd.rng.raw))
  refine ⟨dueX delay now X, ⟨k.at hb.1 hnb, hM, fun p hp => ?_, ?_, fun p hp => ?_, ?_⟩, dueX_abs _ _ _, (hd.kept.trans k (fun i hi => .inr (hd.new i hi))).mono (fun i hi => ?_), fun i hi => .inl ?_⟩
  · obtain ⟨q, hq, rfl⟩ := hmem p hp
    exact (hst q hq).kept k (hd.rowmap (rawmap_nocells (hst q hq)))
  · unfold dueX
    rw [List.pairwise_map]
    exact h.apart
  · obtain ⟨q, hq, rfl⟩ := hmem p hp
    exact h.out q hq
  · rw [dueX_abs]
    exact h.good.due
  · obtain ⟨q, hq, rfl⟩ := List.mem_map.1 hi
    exact .inl (ldom_mem.2 (.inr (.inr ⟨q, hq, rfl⟩)))
  · rcases ldom_mem.1 hi with e | e | ⟨p, hp, e⟩
    · exact ldom_mem.2 (.inl e)
    · exact ldom_mem.2 (.inr (.inl e))
    · obtain ⟨q, hq, rfl⟩ := hmem p hp
      exact ldom_mem.2 (.inr (.inr ⟨q, hq, e⟩))
end Go.Proofs.Ytdikijbkfhimoaa
